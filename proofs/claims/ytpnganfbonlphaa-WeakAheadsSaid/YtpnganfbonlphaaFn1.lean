/- The functions of the code, as plain functions, and the theorems that say so: made by a program of this proof's own. -/
import Derived.Test.YtpnganfbonlphaaAbCheck
import Derived.Test.YtpnganfbonlphaaChecked
namespace Go.Proofs.Ytpnganfbonlphaa.S
open Go Go.Ab
noncomputable section
def bkl : List (Nat × Bk) := [(90, .mk 96 22), (96, .gen 22)]
def tab : Tab := ⟨lookT [(2, .int .i64), (3, .int .i64), (4, .bool), (5, .int .u8), (6, .int .u8), (7, .pair (.int .i64) (.pair (.int .i64) (.pair (.bool) (.pair (.int .u8) (.unit))))), (8, .pair (.int .i64) (.pair (.int .i64) (.pair (.bool) (.pair (.int .u8) (.unit))))), (12, .int .u64), (21, .int .i32), (22, .sl (.pair (.int .i64) (.pair (.int .i64) (.pair (.int .i64) (.pair (.int .i64) (.unit)))))), (23, .int .i64), (26, .int .u32), (29, .sl (.int .i64)), (31, .pair (.int .i64) (.pair (.int .i64) (.pair (.int .i64) (.pair (.int .i64) (.unit))))), (32, .pair (.int .i64) (.pair (.int .i64) (.pair (.int .i64) (.pair (.int .i64) (.unit))))), (33, .int .u64), (44, .sl (.pair (.int .i64) (.pair (.int .i64) (.pair (.int .i64) (.pair (.int .i64) (.pair (.int .i64) (.unit))))))), (55, .sl (.pair (.int .i64) (.pair (.int .i64) (.unit)))), (65, .pair (.int .i64) (.pair (.int .i64) (.unit))), (66, .pair (.int .i64) (.pair (.int .i64) (.unit))), (86, .sl (.pair (.int .i64) (.pair (.int .i64) (.pair (.int .i64) (.pair (.int .i64) (.unit)))))), (94, .pair (.int .i64) (.pair (.int .i64) (.pair (.int .i64) (.pair (.int .i64) (.unit))))), (95, .pair (.int .i64) (.pair (.int .i64) (.pair (.int .i64) (.pair (.int .i64) (.unit))))), (96, .sl (.bool)), (101, .pair (.int .i64) (.pair (.int .i64) (.pair (.int .i64) (.pair (.int .i64) (.pair (.int .i64) (.unit)))))), (102, .pair (.int .i64) (.pair (.int .i64) (.pair (.int .i64) (.pair (.int .i64) (.pair (.int .i64) (.unit)))))), (104, .pair (.sl (.pair (.int .i64) (.pair (.int .i64) (.pair (.int .i64) (.pair (.int .i64) (.unit)))))) (.pair (.sl (.int .i64)) (.pair (.sl (.pair (.int .i64) (.pair (.int .i64) (.pair (.int .i64) (.pair (.int .i64) (.pair (.int .i64) (.unit))))))) (.unit)))), (105, .pair (.sl (.pair (.int .i64) (.pair (.int .i64) (.pair (.int .i64) (.pair (.int .i64) (.unit)))))) (.pair (.sl (.int .i64)) (.pair (.sl (.pair (.int .i64) (.pair (.int .i64) (.pair (.int .i64) (.pair (.int .i64) (.pair (.int .i64) (.unit))))))) (.unit)))), (114, .mp (.pair (.int .i64) (.pair (.int .i64) (.pair (.int .i64) (.pair (.int .i64) (.unit))))) (.int .i64)), (115, .pair (.sl (.pair (.int .i64) (.pair (.int .i64) (.pair (.int .i64) (.pair (.int .i64) (.unit)))))) (.pair (.mp (.pair (.int .i64) (.pair (.int .i64) (.pair (.int .i64) (.pair (.int .i64) (.unit))))) (.int .i64)) (.unit))), (116, .pair (.sl (.pair (.int .i64) (.pair (.int .i64) (.pair (.int .i64) (.pair (.int .i64) (.unit)))))) (.pair (.mp (.pair (.int .i64) (.pair (.int .i64) (.pair (.int .i64) (.pair (.int .i64) (.unit))))) (.int .i64)) (.unit))), (119, .pair (.sl (.pair (.int .i64) (.pair (.int .i64) (.pair (.int .i64) (.pair (.int .i64) (.pair (.int .i64) (.unit))))))) (.pair (.int .i64) (.pair (.int .i64) (.pair (.int .i64) (.unit))))), (120, .pair (.sl (.pair (.int .i64) (.pair (.int .i64) (.pair (.int .i64) (.pair (.int .i64) (.pair (.int .i64) (.unit))))))) (.pair (.int .i64) (.pair (.int .i64) (.pair (.int .i64) (.unit))))), (121, .sl (.pair (.sl (.pair (.int .i64) (.pair (.int .i64) (.pair (.int .i64) (.pair (.int .i64) (.pair (.int .i64) (.unit))))))) (.pair (.int .i64) (.pair (.int .i64) (.pair (.int .i64) (.unit)))))), (142, .int .u8), (143, .int .u8), (146, .int .i32), (147, .int .i32)], lookM [(2, .bor false true), (3, .bor false true), (4, .bor false true), (5, .bor false true), (6, .bor false true), (7, .bor false true), (8, .bor false true), (12, .bor false true), (21, .bor false true), (22, .own false (.bor false false)), (23, .bor false true), (26, .bor false true), (29, .own false (.bor false false)), (31, .bor false true), (32, .bor false true), (33, .bor false true), (44, .own false (.bor false false)), (55, .own false (.bor false false)), (65, .bor false true), (66, .bor false true), (86, .own false (.bor false false)), (94, .bor false true), (95, .bor false true), (96, .own false (.bor false false)), (101, .bor false true), (102, .bor false true), (104, .bor true false), (105, .pair (.bor false false) (.pair (.bor false false) (.pair (.own false (.bor false false)) (.bor false false)))), (114, .own false (.bor false false)), (115, .bor true false), (116, .pair (.own false (.bor false false)) (.pair (.own true (.bor false false)) (.bor false false))), (119, .bor true false), (120, .bor true false), (121, .own false (.bor false false)), (142, .bor false true), (143, .bor false true), (146, .bor false true), (147, .bor false true)], hasT [138], hasT [9, 10, 11], fun _ => none, lookB bkl⟩
theorem bkls : BkL Try.prog bkl := by
  intro x hx
  simp only [bkl, List.mem_cons, List.not_mem_nil, or_false] at hx
  rcases hx with rfl | rfl
  · exact ⟨⟨Try.f90, codeOf Try.f90, Try.func90, by kernel_rfl, by kernel_rfl⟩, Try.f90, 128, 127, Try.func90, by kernel_rfl, by kernel_rfl, by kernel_rfl⟩
  · exact ⟨⟨Try.f96, codeOf Try.f96, Try.func96, by kernel_rfl, by kernel_rfl⟩, Try.f96, 3, 32, 4, 132, Try.func96, by kernel_rfl, by kernel_rfl, by kernel_rfl, by kernel_rfl⟩
theorem tabs : TabOK Try.prog tab ∧ EqOK Try.prog tab := tab_ok (by kernel_rfl) (by kernel_rfl)
theorem mixed : Try.prog.follows .mixedOrders = true := by kernel_rfl

/-! codemason term.Check -/
def term_Check_phi (nf : Nat) : Nat → Option Contract := lookC []
def term_Check_keep : Nat → List Nat := lookK [(0, [0, 1, 23, 24, 25])]
def term_Check_b0 (nf : Nat) (vars : Int) (l' : List (Int × Int × Int × Int × Unit)) (g0 : Int → Option (Int × Unit)) (t25 : Int) : Option (Int × Unit) :=
  bif decide (t25 < (↑l'.length : Int)) then
    bif inb t25 l'.length then
      bif decide ((l'.getD t25.toNat (0, 0, 0, 0, ())).fst < 1) then
        some ((6, ()))
      else
        bif decide ((l'.getD t25.toNat (0, 0, 0, 0, ())).fst > 6) then
          some ((6, ()))
        else
          bif (l'.getD t25.toNat (0, 0, 0, 0, ())).fst == 1 then
            bif decide ((l'.getD t25.toNat (0, 0, 0, 0, ())).snd.snd.snd.fst < 0) then
              some ((4, ()))
            else
              bif decide ((l'.getD t25.toNat (0, 0, 0, 0, ())).snd.snd.snd.fst > 255) then
                some ((4, ()))
              else
                bif (l'.getD t25.toNat (0, 0, 0, 0, ())).fst == 2 then
                  bif decide ((l'.getD t25.toNat (0, 0, 0, 0, ())).snd.snd.snd.fst < 0) then
                    some ((4, ()))
                  else
                    bif decide ((l'.getD t25.toNat (0, 0, 0, 0, ())).snd.snd.snd.fst ≥ vars) then
                      some ((4, ()))
                    else
                      bif decide ((l'.getD t25.toNat (0, 0, 0, 0, ())).fst > 2) then
                        bif decide ((if (l'.getD t25.toNat (0, 0, 0, 0, ())).snd.snd.fst < (l'.getD t25.toNat (0, 0, 0, 0, ())).snd.fst then (l'.getD t25.toNat (0, 0, 0, 0, ())).snd.snd.fst else (l'.getD t25.toNat (0, 0, 0, 0, ())).snd.fst) < 0) then
                          some ((2, ()))
                        else
                          bif decide ((if (l'.getD t25.toNat (0, 0, 0, 0, ())).snd.snd.fst > (l'.getD t25.toNat (0, 0, 0, 0, ())).snd.fst then (l'.getD t25.toNat (0, 0, 0, 0, ())).snd.snd.fst else (l'.getD t25.toNat (0, 0, 0, 0, ())).snd.fst) ≥ t25) then
                            some ((2, ()))
                          else
                            g0 (IntKind.i64.wrap (t25 + 1))
                      else
                        g0 (IntKind.i64.wrap (t25 + 1))
                else
                  bif decide ((l'.getD t25.toNat (0, 0, 0, 0, ())).fst > 2) then
                    bif decide ((if (l'.getD t25.toNat (0, 0, 0, 0, ())).snd.snd.fst < (l'.getD t25.toNat (0, 0, 0, 0, ())).snd.fst then (l'.getD t25.toNat (0, 0, 0, 0, ())).snd.snd.fst else (l'.getD t25.toNat (0, 0, 0, 0, ())).snd.fst) < 0) then
                      some ((2, ()))
                    else
                      bif decide ((if (l'.getD t25.toNat (0, 0, 0, 0, ())).snd.snd.fst > (l'.getD t25.toNat (0, 0, 0, 0, ())).snd.fst then (l'.getD t25.toNat (0, 0, 0, 0, ())).snd.snd.fst else (l'.getD t25.toNat (0, 0, 0, 0, ())).snd.fst) ≥ t25) then
                        some ((2, ()))
                      else
                        g0 (IntKind.i64.wrap (t25 + 1))
                  else
                    g0 (IntKind.i64.wrap (t25 + 1))
          else
            bif (l'.getD t25.toNat (0, 0, 0, 0, ())).fst == 2 then
              bif decide ((l'.getD t25.toNat (0, 0, 0, 0, ())).snd.snd.snd.fst < 0) then
                some ((4, ()))
              else
                bif decide ((l'.getD t25.toNat (0, 0, 0, 0, ())).snd.snd.snd.fst ≥ vars) then
                  some ((4, ()))
                else
                  bif decide ((l'.getD t25.toNat (0, 0, 0, 0, ())).fst > 2) then
                    bif decide ((if (l'.getD t25.toNat (0, 0, 0, 0, ())).snd.snd.fst < (l'.getD t25.toNat (0, 0, 0, 0, ())).snd.fst then (l'.getD t25.toNat (0, 0, 0, 0, ())).snd.snd.fst else (l'.getD t25.toNat (0, 0, 0, 0, ())).snd.fst) < 0) then
                      some ((2, ()))
                    else
                      bif decide ((if (l'.getD t25.toNat (0, 0, 0, 0, ())).snd.snd.fst > (l'.getD t25.toNat (0, 0, 0, 0, ())).snd.fst then (l'.getD t25.toNat (0, 0, 0, 0, ())).snd.snd.fst else (l'.getD t25.toNat (0, 0, 0, 0, ())).snd.fst) ≥ t25) then
                        some ((2, ()))
                      else
                        g0 (IntKind.i64.wrap (t25 + 1))
                  else
                    g0 (IntKind.i64.wrap (t25 + 1))
            else
              bif decide ((l'.getD t25.toNat (0, 0, 0, 0, ())).fst > 2) then
                bif decide ((if (l'.getD t25.toNat (0, 0, 0, 0, ())).snd.snd.fst < (l'.getD t25.toNat (0, 0, 0, 0, ())).snd.fst then (l'.getD t25.toNat (0, 0, 0, 0, ())).snd.snd.fst else (l'.getD t25.toNat (0, 0, 0, 0, ())).snd.fst) < 0) then
                  some ((2, ()))
                else
                  bif decide ((if (l'.getD t25.toNat (0, 0, 0, 0, ())).snd.snd.fst > (l'.getD t25.toNat (0, 0, 0, 0, ())).snd.fst then (l'.getD t25.toNat (0, 0, 0, 0, ())).snd.snd.fst else (l'.getD t25.toNat (0, 0, 0, 0, ())).snd.fst) ≥ t25) then
                    some ((2, ()))
                  else
                    g0 (IntKind.i64.wrap (t25 + 1))
              else
                g0 (IntKind.i64.wrap (t25 + 1))
    else
      none
  else
    some ((0, ()))
def term_Check_p (nf : Nat) (l0 : Int → List (Int × Int × Int × Int × Unit) → Int → Option (Int × Unit)) (vars : Int) (l' : List (Int × Int × Int × Int × Unit)) : Option (Int × Unit) :=
  bif decide (vars < 0) then
    some ((1, ()))
  else
    bif decide (vars > 6) then
      some ((1, ()))
    else
      bif (↑l'.length : Int) == 0 then
        some ((1, ()))
      else
        bif decide ((↑l'.length : Int) > 16) then
          some ((1, ()))
        else
          l0 vars l' 0
def term_Check_l0 (nf : Nat) (vars : Int) (l' : List (Int × Int × Int × Int × Unit)) : Nat → Int → Option (Int × Unit)
  | 0, _ => none
  | fu + 1, t25 => term_Check_b0 nf  vars l'  (term_Check_l0 nf vars l'  fu) t25
def term_Check_f (nf : Nat) (vars : Int) (l' : List (Int × Int × Int × Int × Unit)) : Option (Int × Unit) := term_Check_p nf (fun p0 p1 v0 => term_Check_l0 nf p0 p1 nf v0) vars l'
noncomputable def term_Check_L0 (nf : Nat) : LC (Int × Unit) := theL (findL tab (term_Check_phi nf) (fun _ F => iter nf F) term_Check_keep 0 0 (codeOf Try.f20) (fin tab [(Ty.int IntKind.i64, Md.bor false true)] (resL ([]) Try.f20)) (fun _ _ => none) (fin tab [(Ty.int IntKind.i64, Md.bor false true)] (resL ([]) Try.f20)))
def term_Check_m0 (vars : Int) (l' : List (Int × Int × Int × Int × Unit)) (t25 : Int) : St := ⟨fresh, [(0, AV.v (Ty.int IntKind.i64) (Md.bor false true) vars), (1, AV.v ((Ty.int IntKind.i64).pair ((Ty.int IntKind.i64).pair ((Ty.int IntKind.i64).pair ((Ty.int IntKind.i64).pair Ty.unit)))).sl (Md.bor true false) l'), (23, AV.v ((Ty.int IntKind.i64).pair ((Ty.int IntKind.i64).pair ((Ty.int IntKind.i64).pair ((Ty.int IntKind.i64).pair Ty.unit)))).sl (Md.bor true false) l'), (24, AV.v (Ty.int IntKind.i64) (Md.bor false true) (↑l'.length : Int)), (25, AV.v (Ty.int IntKind.i64) (Md.bor false true) t25)]⟩
theorem term_Check_h0 (nf : Nat)  (vars : Int) (l' : List (Int × Int × Int × Int × Unit)) (fu : Nat) (t25 : Int) : iter (fu + 1) (LC.F tab (term_Check_phi nf) (fun _ F => iter nf F) term_Check_keep 0 (term_Check_L0 nf )) (term_Check_m0 vars l' t25) = term_Check_b0 nf  vars l'  (fun t25 => iter fu (LC.F tab (term_Check_phi nf) (fun _ F => iter nf F) term_Check_keep 0 (term_Check_L0 nf )) (term_Check_m0 vars l' t25)) t25 := by kernel_rfl
theorem term_Check_e0 (nf : Nat)  (vars : Int) (l' : List (Int × Int × Int × Int × Unit)) : ∀ (fu : Nat) (t25 : Int), iter fu (LC.F tab (term_Check_phi nf) (fun _ F => iter nf F) term_Check_keep 0 (term_Check_L0 nf )) (term_Check_m0 vars l' t25) = term_Check_l0 nf vars l'  fu t25 := by
  intro fu
  induction fu with
  | zero => intros; rfl
  | succ fu ih =>
    intro t25
    rw [term_Check_h0 nf  vars l' fu t25]
    simp only [ih]
    rfl
theorem term_Check_eq (nf : Nat) (vars : Int) (l' : List (Int × Int × Int × Int × Unit)) : runF tab (term_Check_phi nf) term_Check_keep nf [PT.val (Ty.int IntKind.i64) (Md.bor true false), PT.val ((Ty.int IntKind.i64).pair ((Ty.int IntKind.i64).pair ((Ty.int IntKind.i64).pair ((Ty.int IntKind.i64).pair Ty.unit)))).sl (Md.bor true false)] [(Ty.int IntKind.i64, Md.bor false true)] (resL ([]) Try.f20) (codeOf Try.f20) ⟨vars, l', ()⟩ = term_Check_f nf vars l' := by
  have h : runF tab (term_Check_phi nf) term_Check_keep nf [PT.val (Ty.int IntKind.i64) (Md.bor true false), PT.val ((Ty.int IntKind.i64).pair ((Ty.int IntKind.i64).pair ((Ty.int IntKind.i64).pair ((Ty.int IntKind.i64).pair Ty.unit)))).sl (Md.bor true false)] [(Ty.int IntKind.i64, Md.bor false true)] (resL ([]) Try.f20) (codeOf Try.f20) ⟨vars, l', ()⟩ = term_Check_p nf (fun p0 p1 v0 => iter nf (LC.F tab (term_Check_phi nf) (fun _ F => iter nf F) term_Check_keep 0 (term_Check_L0 nf)) (term_Check_m0 p0 p1 v0)) vars l' := by kernel_rfl
  rw [h]
  simp only [term_Check_e0]
  rfl
def term_Check_F (nf : Nat) (x : denPs [.val (.int .i64) (.bor true false), .val (.sl (.pair (.int .i64) (.pair (.int .i64) (.pair (.int .i64) (.pair (.int .i64) (.unit)))))) (.bor true false)]) : Option (denL [(.int .i64, .bor false true)]) := term_Check_f nf x.1 x.2.1
def term_Check_C (nf : Nat) : Contract := ⟨[.val (.int .i64) (.bor true false), .val (.sl (.pair (.int .i64) (.pair (.int .i64) (.pair (.int .i64) (.pair (.int .i64) (.unit)))))) (.bor true false)], [(.int .i64, .bor false true)], term_Check_F nf, []⟩
theorem term_Check_ok : FnOK Try.prog 20 := ⟨Try.f20, codeOf Try.f20, Try.func20, by kernel_rfl, by kernel_rfl⟩
theorem term_Check_holds (nf : Nat) : Contract.Holds Try.prog 20 (term_Check_C nf) :=
  fn_holds (Φ := term_Check_phi nf) (keep := term_Check_keep) (n := nf) ⟨tabs.1, tabs.2, ctx_nil, mixed, bk_ok bkls rfl⟩ (fn := Try.f20) ⟨Try.func20, by kernel_rfl, by kernel_rfl, by kernel_rfl⟩ (fun x => term_Check_eq nf x.1 x.2.1)

/-! codemason codemasonref.Inside -/
def ref_Inside_phi (nf : Nat) : Nat → Option Contract := lookC []
def ref_Inside_keep : Nat → List Nat := lookK [(0, [0, 1, 7, 8, 9])]
def ref_Inside_b0 (nf : Nat) (n' : Int) (l' : List Int) (g0 : Int → Option (Bool × Unit)) (t9 : Int) : Option (Bool × Unit) :=
  bif decide (t9 < (↑l'.length : Int)) then
    bif inb t9 l'.length then
      bif decide (l'.getD t9.toNat 0 < 0) then
        some ((false, ()))
      else
        bif decide (l'.getD t9.toNat 0 ≥ n') then
          some ((false, ()))
        else
          g0 (IntKind.i64.wrap (t9 + 1))
    else
      none
  else
    some ((true, ()))
def ref_Inside_p (nf : Nat) (l0 : Int → List Int → Int → Option (Bool × Unit)) (n' : Int) (l' : List Int) : Option (Bool × Unit) :=
  l0 n' l' 0
def ref_Inside_l0 (nf : Nat) (n' : Int) (l' : List Int) : Nat → Int → Option (Bool × Unit)
  | 0, _ => none
  | fu + 1, t9 => ref_Inside_b0 nf  n' l'  (ref_Inside_l0 nf n' l'  fu) t9
def ref_Inside_f (nf : Nat) (n' : Int) (l' : List Int) : Option (Bool × Unit) := ref_Inside_p nf (fun p0 p1 v0 => ref_Inside_l0 nf p0 p1 nf v0) n' l'
noncomputable def ref_Inside_L0 (nf : Nat) : LC (Bool × Unit) := theL (findL tab (ref_Inside_phi nf) (fun _ F => iter nf F) ref_Inside_keep 0 0 (codeOf Try.f50) (fin tab [(Ty.bool, Md.bor false true)] (resL ([]) Try.f50)) (fun _ _ => none) (fin tab [(Ty.bool, Md.bor false true)] (resL ([]) Try.f50)))
def ref_Inside_m0 (n' : Int) (l' : List Int) (t9 : Int) : St := ⟨fresh, [(0, AV.v (Ty.int IntKind.i64) (Md.bor false true) n'), (1, AV.v (Ty.int IntKind.i64).sl (Md.bor true false) l'), (7, AV.v (Ty.int IntKind.i64).sl (Md.bor true false) l'), (8, AV.v (Ty.int IntKind.i64) (Md.bor false true) (↑l'.length : Int)), (9, AV.v (Ty.int IntKind.i64) (Md.bor false true) t9)]⟩
theorem ref_Inside_h0 (nf : Nat)  (n' : Int) (l' : List Int) (fu : Nat) (t9 : Int) : iter (fu + 1) (LC.F tab (ref_Inside_phi nf) (fun _ F => iter nf F) ref_Inside_keep 0 (ref_Inside_L0 nf )) (ref_Inside_m0 n' l' t9) = ref_Inside_b0 nf  n' l'  (fun t9 => iter fu (LC.F tab (ref_Inside_phi nf) (fun _ F => iter nf F) ref_Inside_keep 0 (ref_Inside_L0 nf )) (ref_Inside_m0 n' l' t9)) t9 := by kernel_rfl
theorem ref_Inside_e0 (nf : Nat)  (n' : Int) (l' : List Int) : ∀ (fu : Nat) (t9 : Int), iter fu (LC.F tab (ref_Inside_phi nf) (fun _ F => iter nf F) ref_Inside_keep 0 (ref_Inside_L0 nf )) (ref_Inside_m0 n' l' t9) = ref_Inside_l0 nf n' l'  fu t9 := by
  intro fu
  induction fu with
  | zero => intros; rfl
  | succ fu ih =>
    intro t9
    rw [ref_Inside_h0 nf  n' l' fu t9]
    simp only [ih]
    rfl
theorem ref_Inside_eq (nf : Nat) (n' : Int) (l' : List Int) : runF tab (ref_Inside_phi nf) ref_Inside_keep nf [PT.val (Ty.int IntKind.i64) (Md.bor true false), PT.val (Ty.int IntKind.i64).sl (Md.bor true false)] [(Ty.bool, Md.bor false true)] (resL ([]) Try.f50) (codeOf Try.f50) ⟨n', l', ()⟩ = ref_Inside_f nf n' l' := by
  have h : runF tab (ref_Inside_phi nf) ref_Inside_keep nf [PT.val (Ty.int IntKind.i64) (Md.bor true false), PT.val (Ty.int IntKind.i64).sl (Md.bor true false)] [(Ty.bool, Md.bor false true)] (resL ([]) Try.f50) (codeOf Try.f50) ⟨n', l', ()⟩ = ref_Inside_p nf (fun p0 p1 v0 => iter nf (LC.F tab (ref_Inside_phi nf) (fun _ F => iter nf F) ref_Inside_keep 0 (ref_Inside_L0 nf)) (ref_Inside_m0 p0 p1 v0)) n' l' := by kernel_rfl
  rw [h]
  simp only [ref_Inside_e0]
  rfl
def ref_Inside_F (nf : Nat) (x : denPs [.val (.int .i64) (.bor true false), .val (.sl (.int .i64)) (.bor true false)]) : Option (denL [(.bool, .bor false true)]) := ref_Inside_f nf x.1 x.2.1
def ref_Inside_C (nf : Nat) : Contract := ⟨[.val (.int .i64) (.bor true false), .val (.sl (.int .i64)) (.bor true false)], [(.bool, .bor false true)], ref_Inside_F nf, []⟩
theorem ref_Inside_ok : FnOK Try.prog 50 := ⟨Try.f50, codeOf Try.f50, Try.func50, by kernel_rfl, by kernel_rfl⟩
theorem ref_Inside_holds (nf : Nat) : Contract.Holds Try.prog 50 (ref_Inside_C nf) :=
  fn_holds (Φ := ref_Inside_phi nf) (keep := ref_Inside_keep) (n := nf) ⟨tabs.1, tabs.2, ctx_nil, mixed, bk_ok bkls rfl⟩ (fn := Try.f50) ⟨Try.func50, by kernel_rfl, by kernel_rfl, by kernel_rfl⟩ (fun x => ref_Inside_eq nf x.1 x.2.1)

/-! codemason codemasonref.Value -/
def ref_Value_phi (nf : Nat) : Nat → Option Contract := lookC []
def ref_Value_keep : Nat → List Nat := lookK []
def ref_Value_p (nf : Nat)  (x : Int) : Option (Bool × Unit) :=
  bif decide (x ≥ 0) then
    some ((decide (x ≤ 255), ()))
  else
    some ((false, ()))
def ref_Value_f (nf : Nat) (x : Int) : Option (Bool × Unit) := ref_Value_p nf  x
theorem ref_Value_eq (nf : Nat) (x : Int) : runF tab (ref_Value_phi nf) ref_Value_keep nf [PT.val (Ty.int IntKind.i64) (Md.bor true false)] [(Ty.bool, Md.bor false true)] (resL ([]) Try.f56) (codeOf Try.f56) ⟨x, ()⟩ = ref_Value_f nf x := by
  have h : runF tab (ref_Value_phi nf) ref_Value_keep nf [PT.val (Ty.int IntKind.i64) (Md.bor true false)] [(Ty.bool, Md.bor false true)] (resL ([]) Try.f56) (codeOf Try.f56) ⟨x, ()⟩ = ref_Value_p nf  x := by kernel_rfl
  exact h
def ref_Value_F (nf : Nat) (x : denPs [.val (.int .i64) (.bor true false)]) : Option (denL [(.bool, .bor false true)]) := ref_Value_f nf x.1
def ref_Value_C (nf : Nat) : Contract := ⟨[.val (.int .i64) (.bor true false)], [(.bool, .bor false true)], ref_Value_F nf, []⟩
theorem ref_Value_ok : FnOK Try.prog 56 := ⟨Try.f56, codeOf Try.f56, Try.func56, by kernel_rfl, by kernel_rfl⟩
theorem ref_Value_holds (nf : Nat) : Contract.Holds Try.prog 56 (ref_Value_C nf) :=
  fn_holds (Φ := ref_Value_phi nf) (keep := ref_Value_keep) (n := nf) ⟨tabs.1, tabs.2, ctx_nil, mixed, bk_ok bkls rfl⟩ (fn := Try.f56) ⟨Try.func56, by kernel_rfl, by kernel_rfl, by kernel_rfl⟩ (fun x => ref_Value_eq nf x.1)

/-! codemason codemasonref.TermsCheck -/
def ref_TermsCheck_phi (nf : Nat) : Nat → Option Contract := lookC [(50, ref_Inside_C nf), (56, ref_Value_C nf)]
def ref_TermsCheck_keep : Nat → List Nat := lookK [(0, [0, 1, 23, 24, 25])]
def ref_TermsCheck_b0 (nf : Nat) (vars : Int) (l' : List (Int × Int × Int × Int × Unit)) (g0 : Int → Option (Int × Unit)) (t25 : Int) : Option (Int × Unit) :=
  bif decide (t25 < (↑l'.length : Int)) then
    bif inb t25 l'.length then
      bif decide ((l'.getD t25.toNat (0, 0, 0, 0, ())).fst < 1) then
        some ((6, ()))
      else
        bif decide ((l'.getD t25.toNat (0, 0, 0, 0, ())).fst > 6) then
          some ((6, ()))
        else
          bif (l'.getD t25.toNat (0, 0, 0, 0, ())).fst == 1 then
            Option.bind (ref_Value_f nf ((l'.getD t25.toNat (0, 0, 0, 0, ())).snd.snd.snd.fst)) fun r =>
            bif !r.fst then
              some ((4, ()))
            else
              bif (l'.getD t25.toNat (0, 0, 0, 0, ())).fst == 2 then
                Option.bind (ref_Inside_f nf vars ([(l'.getD t25.toNat (0, 0, 0, 0, ())).snd.snd.snd.fst])) fun r2 =>
                bif !r2.fst then
                  some ((4, ()))
                else
                  bif decide ((l'.getD t25.toNat (0, 0, 0, 0, ())).fst ≥ 3) then
                    Option.bind (ref_Inside_f nf t25 ([(l'.getD t25.toNat (0, 0, 0, 0, ())).snd.fst, (l'.getD t25.toNat (0, 0, 0, 0, ())).snd.snd.fst])) fun r3 =>
                    bif !r3.fst then
                      some ((2, ()))
                    else
                      g0 (IntKind.i64.wrap (t25 + 1))
                  else
                    g0 (IntKind.i64.wrap (t25 + 1))
              else
                bif decide ((l'.getD t25.toNat (0, 0, 0, 0, ())).fst ≥ 3) then
                  Option.bind (ref_Inside_f nf t25 ([(l'.getD t25.toNat (0, 0, 0, 0, ())).snd.fst, (l'.getD t25.toNat (0, 0, 0, 0, ())).snd.snd.fst])) fun r4 =>
                  bif !r4.fst then
                    some ((2, ()))
                  else
                    g0 (IntKind.i64.wrap (t25 + 1))
                else
                  g0 (IntKind.i64.wrap (t25 + 1))
          else
            bif (l'.getD t25.toNat (0, 0, 0, 0, ())).fst == 2 then
              Option.bind (ref_Inside_f nf vars ([(l'.getD t25.toNat (0, 0, 0, 0, ())).snd.snd.snd.fst])) fun r5 =>
              bif !r5.fst then
                some ((4, ()))
              else
                bif decide ((l'.getD t25.toNat (0, 0, 0, 0, ())).fst ≥ 3) then
                  Option.bind (ref_Inside_f nf t25 ([(l'.getD t25.toNat (0, 0, 0, 0, ())).snd.fst, (l'.getD t25.toNat (0, 0, 0, 0, ())).snd.snd.fst])) fun r6 =>
                  bif !r6.fst then
                    some ((2, ()))
                  else
                    g0 (IntKind.i64.wrap (t25 + 1))
                else
                  g0 (IntKind.i64.wrap (t25 + 1))
            else
              bif decide ((l'.getD t25.toNat (0, 0, 0, 0, ())).fst ≥ 3) then
                Option.bind (ref_Inside_f nf t25 ([(l'.getD t25.toNat (0, 0, 0, 0, ())).snd.fst, (l'.getD t25.toNat (0, 0, 0, 0, ())).snd.snd.fst])) fun r7 =>
                bif !r7.fst then
                  some ((2, ()))
                else
                  g0 (IntKind.i64.wrap (t25 + 1))
              else
                g0 (IntKind.i64.wrap (t25 + 1))
    else
      none
  else
    some ((0, ()))
def ref_TermsCheck_p (nf : Nat) (l0 : Int → List (Int × Int × Int × Int × Unit) → Int → Option (Int × Unit)) (vars : Int) (l' : List (Int × Int × Int × Int × Unit)) : Option (Int × Unit) :=
  bif decide (vars < 0) then
    some ((1, ()))
  else
    bif decide (vars > 6) then
      some ((1, ()))
    else
      bif decide ((↑l'.length : Int) < 1) then
        some ((1, ()))
      else
        bif decide ((↑l'.length : Int) > 16) then
          some ((1, ()))
        else
          l0 vars l' 0
def ref_TermsCheck_l0 (nf : Nat) (vars : Int) (l' : List (Int × Int × Int × Int × Unit)) : Nat → Int → Option (Int × Unit)
  | 0, _ => none
  | fu + 1, t25 => ref_TermsCheck_b0 nf  vars l'  (ref_TermsCheck_l0 nf vars l'  fu) t25
def ref_TermsCheck_f (nf : Nat) (vars : Int) (l' : List (Int × Int × Int × Int × Unit)) : Option (Int × Unit) := ref_TermsCheck_p nf (fun p0 p1 v0 => ref_TermsCheck_l0 nf p0 p1 nf v0) vars l'
noncomputable def ref_TermsCheck_L0 (nf : Nat) : LC (Int × Unit) := theL (findL tab (ref_TermsCheck_phi nf) (fun _ F => iter nf F) ref_TermsCheck_keep 0 0 (codeOf Try.f21) (fin tab [(Ty.int IntKind.i64, Md.bor false true)] (resL ([]) Try.f21)) (fun _ _ => none) (fin tab [(Ty.int IntKind.i64, Md.bor false true)] (resL ([]) Try.f21)))
def ref_TermsCheck_m0 (vars : Int) (l' : List (Int × Int × Int × Int × Unit)) (t25 : Int) : St := ⟨fresh, [(0, AV.v (Ty.int IntKind.i64) (Md.bor false true) vars), (1, AV.v ((Ty.int IntKind.i64).pair ((Ty.int IntKind.i64).pair ((Ty.int IntKind.i64).pair ((Ty.int IntKind.i64).pair Ty.unit)))).sl (Md.bor true false) l'), (23, AV.v ((Ty.int IntKind.i64).pair ((Ty.int IntKind.i64).pair ((Ty.int IntKind.i64).pair ((Ty.int IntKind.i64).pair Ty.unit)))).sl (Md.bor true false) l'), (24, AV.v (Ty.int IntKind.i64) (Md.bor false true) (↑l'.length : Int)), (25, AV.v (Ty.int IntKind.i64) (Md.bor false true) t25)]⟩
theorem ref_TermsCheck_h0 (nf : Nat)  (vars : Int) (l' : List (Int × Int × Int × Int × Unit)) (fu : Nat) (t25 : Int) : iter (fu + 1) (LC.F tab (ref_TermsCheck_phi nf) (fun _ F => iter nf F) ref_TermsCheck_keep 0 (ref_TermsCheck_L0 nf )) (ref_TermsCheck_m0 vars l' t25) = ref_TermsCheck_b0 nf  vars l'  (fun t25 => iter fu (LC.F tab (ref_TermsCheck_phi nf) (fun _ F => iter nf F) ref_TermsCheck_keep 0 (ref_TermsCheck_L0 nf )) (ref_TermsCheck_m0 vars l' t25)) t25 := by kernel_rfl
theorem ref_TermsCheck_e0 (nf : Nat)  (vars : Int) (l' : List (Int × Int × Int × Int × Unit)) : ∀ (fu : Nat) (t25 : Int), iter fu (LC.F tab (ref_TermsCheck_phi nf) (fun _ F => iter nf F) ref_TermsCheck_keep 0 (ref_TermsCheck_L0 nf )) (ref_TermsCheck_m0 vars l' t25) = ref_TermsCheck_l0 nf vars l'  fu t25 := by
  intro fu
  induction fu with
  | zero => intros; rfl
  | succ fu ih =>
    intro t25
    rw [ref_TermsCheck_h0 nf  vars l' fu t25]
    simp only [ih]
    rfl
theorem ref_TermsCheck_eq (nf : Nat) (vars : Int) (l' : List (Int × Int × Int × Int × Unit)) : runF tab (ref_TermsCheck_phi nf) ref_TermsCheck_keep nf [PT.val (Ty.int IntKind.i64) (Md.bor true false), PT.val ((Ty.int IntKind.i64).pair ((Ty.int IntKind.i64).pair ((Ty.int IntKind.i64).pair ((Ty.int IntKind.i64).pair Ty.unit)))).sl (Md.bor true false)] [(Ty.int IntKind.i64, Md.bor false true)] (resL ([]) Try.f21) (codeOf Try.f21) ⟨vars, l', ()⟩ = ref_TermsCheck_f nf vars l' := by
  have h : runF tab (ref_TermsCheck_phi nf) ref_TermsCheck_keep nf [PT.val (Ty.int IntKind.i64) (Md.bor true false), PT.val ((Ty.int IntKind.i64).pair ((Ty.int IntKind.i64).pair ((Ty.int IntKind.i64).pair ((Ty.int IntKind.i64).pair Ty.unit)))).sl (Md.bor true false)] [(Ty.int IntKind.i64, Md.bor false true)] (resL ([]) Try.f21) (codeOf Try.f21) ⟨vars, l', ()⟩ = ref_TermsCheck_p nf (fun p0 p1 v0 => iter nf (LC.F tab (ref_TermsCheck_phi nf) (fun _ F => iter nf F) ref_TermsCheck_keep 0 (ref_TermsCheck_L0 nf)) (ref_TermsCheck_m0 p0 p1 v0)) vars l' := by kernel_rfl
  rw [h]
  simp only [ref_TermsCheck_e0]
  rfl
def ref_TermsCheck_F (nf : Nat) (x : denPs [.val (.int .i64) (.bor true false), .val (.sl (.pair (.int .i64) (.pair (.int .i64) (.pair (.int .i64) (.pair (.int .i64) (.unit)))))) (.bor true false)]) : Option (denL [(.int .i64, .bor false true)]) := ref_TermsCheck_f nf x.1 x.2.1
def ref_TermsCheck_C (nf : Nat) : Contract := ⟨[.val (.int .i64) (.bor true false), .val (.sl (.pair (.int .i64) (.pair (.int .i64) (.pair (.int .i64) (.pair (.int .i64) (.unit)))))) (.bor true false)], [(.int .i64, .bor false true)], ref_TermsCheck_F nf, []⟩
theorem ref_TermsCheck_ok : FnOK Try.prog 21 := ⟨Try.f21, codeOf Try.f21, Try.func21, by kernel_rfl, by kernel_rfl⟩
theorem ref_TermsCheck_holds (nf : Nat) : Contract.Holds Try.prog 21 (ref_TermsCheck_C nf) :=
  fn_holds (Φ := ref_TermsCheck_phi nf) (keep := ref_TermsCheck_keep) (n := nf) ⟨tabs.1, tabs.2, (ctx_cons ref_Inside_ok (ref_Inside_holds nf) (ctx_cons ref_Value_ok (ref_Value_holds nf) ctx_nil)), mixed, bk_ok bkls rfl⟩ (fn := Try.f21) ⟨Try.func21, by kernel_rfl, by kernel_rfl, by kernel_rfl⟩ (fun x => ref_TermsCheck_eq nf x.1 x.2.1)

/-! codemason term.Do -/
def term_Do_phi (nf : Nat) : Nat → Option Contract := lookC []
def term_Do_keep : Nat → List Nat := lookK []
def term_Do_p (nf : Nat)  (op : Int) (a : Int) (b : Int) : Option (Int × Unit) :=
  bif op == 3 then
    some ((IntKind.i64.wrap (↑(BitVec.ofInt IntKind.i64.bits (IntKind.i64.wrap (a + b)) &&& BitVec.ofInt IntKind.i64.bits 255).toNat : Int), ()))
  else
    bif op == 4 then
      some ((IntKind.i64.wrap (↑(BitVec.ofInt IntKind.i64.bits (IntKind.i64.wrap (a - b)) &&& BitVec.ofInt IntKind.i64.bits 255).toNat : Int), ()))
    else
      bif op == 5 then
        some ((IntKind.i64.wrap (↑(BitVec.ofInt IntKind.i64.bits (IntKind.i64.wrap (a * b)) &&& BitVec.ofInt IntKind.i64.bits 255).toNat : Int), ()))
      else
        bif decide (a < b) then
          some ((1, ()))
        else
          some ((0, ()))
def term_Do_f (nf : Nat) (op : Int) (a : Int) (b : Int) : Option (Int × Unit) := term_Do_p nf  op a b
theorem term_Do_eq (nf : Nat) (op : Int) (a : Int) (b : Int) : runF tab (term_Do_phi nf) term_Do_keep nf [PT.val (Ty.int IntKind.i64) (Md.bor true false), PT.val (Ty.int IntKind.i64) (Md.bor true false), PT.val (Ty.int IntKind.i64) (Md.bor true false)] [(Ty.int IntKind.i64, Md.bor false true)] (resL ([]) Try.f67) (codeOf Try.f67) ⟨op, a, b, ()⟩ = term_Do_f nf op a b := by
  have h : runF tab (term_Do_phi nf) term_Do_keep nf [PT.val (Ty.int IntKind.i64) (Md.bor true false), PT.val (Ty.int IntKind.i64) (Md.bor true false), PT.val (Ty.int IntKind.i64) (Md.bor true false)] [(Ty.int IntKind.i64, Md.bor false true)] (resL ([]) Try.f67) (codeOf Try.f67) ⟨op, a, b, ()⟩ = term_Do_p nf  op a b := by kernel_rfl
  exact h
def term_Do_F (nf : Nat) (x : denPs [.val (.int .i64) (.bor true false), .val (.int .i64) (.bor true false), .val (.int .i64) (.bor true false)]) : Option (denL [(.int .i64, .bor false true)]) := term_Do_f nf x.1 x.2.1 x.2.2.1
def term_Do_C (nf : Nat) : Contract := ⟨[.val (.int .i64) (.bor true false), .val (.int .i64) (.bor true false), .val (.int .i64) (.bor true false)], [(.int .i64, .bor false true)], term_Do_F nf, []⟩
theorem term_Do_ok : FnOK Try.prog 67 := ⟨Try.f67, codeOf Try.f67, Try.func67, by kernel_rfl, by kernel_rfl⟩
theorem term_Do_holds (nf : Nat) : Contract.Holds Try.prog 67 (term_Do_C nf) :=
  fn_holds (Φ := term_Do_phi nf) (keep := term_Do_keep) (n := nf) ⟨tabs.1, tabs.2, ctx_nil, mixed, bk_ok bkls rfl⟩ (fn := Try.f67) ⟨Try.func67, by kernel_rfl, by kernel_rfl, by kernel_rfl⟩ (fun x => term_Do_eq nf x.1 x.2.1 x.2.2.1)

/-! codemason codemasonref.Op -/
def ref_Op_phi (nf : Nat) : Nat → Option Contract := lookC []
def ref_Op_keep : Nat → List Nat := lookK []
def ref_Op_p (nf : Nat)  (op : Int) (a : Int) (b : Int) : Option (Int × Unit) :=
  bif op == 3 then
    bif op == 4 then
      bif op == 5 then
        bif op == 6 then
          bif decide (a < b) then
            some ((Int.tmod 1 256, ()))
          else
            some (((IntKind.i64.wrap (a * b)).tmod 256, ()))
        else
          some (((IntKind.i64.wrap (a * b)).tmod 256, ()))
      else
        bif op == 6 then
          bif decide (a < b) then
            some ((Int.tmod 1 256, ()))
          else
            some (((IntKind.i64.wrap (IntKind.i64.wrap (a - b) + 256)).tmod 256, ()))
        else
          some (((IntKind.i64.wrap (IntKind.i64.wrap (a - b) + 256)).tmod 256, ()))
    else
      bif op == 5 then
        bif op == 6 then
          bif decide (a < b) then
            some ((Int.tmod 1 256, ()))
          else
            some (((IntKind.i64.wrap (a * b)).tmod 256, ()))
        else
          some (((IntKind.i64.wrap (a * b)).tmod 256, ()))
      else
        bif op == 6 then
          bif decide (a < b) then
            some ((Int.tmod 1 256, ()))
          else
            some (((IntKind.i64.wrap (a + b)).tmod 256, ()))
        else
          some (((IntKind.i64.wrap (a + b)).tmod 256, ()))
  else
    bif op == 4 then
      bif op == 5 then
        bif op == 6 then
          bif decide (a < b) then
            some ((Int.tmod 1 256, ()))
          else
            some (((IntKind.i64.wrap (a * b)).tmod 256, ()))
        else
          some (((IntKind.i64.wrap (a * b)).tmod 256, ()))
      else
        bif op == 6 then
          bif decide (a < b) then
            some ((Int.tmod 1 256, ()))
          else
            some (((IntKind.i64.wrap (IntKind.i64.wrap (a - b) + 256)).tmod 256, ()))
        else
          some (((IntKind.i64.wrap (IntKind.i64.wrap (a - b) + 256)).tmod 256, ()))
    else
      bif op == 5 then
        bif op == 6 then
          bif decide (a < b) then
            some ((Int.tmod 1 256, ()))
          else
            some (((IntKind.i64.wrap (a * b)).tmod 256, ()))
        else
          some (((IntKind.i64.wrap (a * b)).tmod 256, ()))
      else
        bif op == 6 then
          bif decide (a < b) then
            some ((Int.tmod 1 256, ()))
          else
            some ((Int.tmod 0 256, ()))
        else
          some ((Int.tmod 0 256, ()))
def ref_Op_f (nf : Nat) (op : Int) (a : Int) (b : Int) : Option (Int × Unit) := ref_Op_p nf  op a b
theorem ref_Op_eq (nf : Nat) (op : Int) (a : Int) (b : Int) : runF tab (ref_Op_phi nf) ref_Op_keep nf [PT.val (Ty.int IntKind.i64) (Md.bor true false), PT.val (Ty.int IntKind.i64) (Md.bor true false), PT.val (Ty.int IntKind.i64) (Md.bor true false)] [(Ty.int IntKind.i64, Md.bor false true)] (resL ([]) Try.f68) (codeOf Try.f68) ⟨op, a, b, ()⟩ = ref_Op_f nf op a b := by
  have h : runF tab (ref_Op_phi nf) ref_Op_keep nf [PT.val (Ty.int IntKind.i64) (Md.bor true false), PT.val (Ty.int IntKind.i64) (Md.bor true false), PT.val (Ty.int IntKind.i64) (Md.bor true false)] [(Ty.int IntKind.i64, Md.bor false true)] (resL ([]) Try.f68) (codeOf Try.f68) ⟨op, a, b, ()⟩ = ref_Op_p nf  op a b := by kernel_rfl
  exact h
def ref_Op_F (nf : Nat) (x : denPs [.val (.int .i64) (.bor true false), .val (.int .i64) (.bor true false), .val (.int .i64) (.bor true false)]) : Option (denL [(.int .i64, .bor false true)]) := ref_Op_f nf x.1 x.2.1 x.2.2.1
def ref_Op_C (nf : Nat) : Contract := ⟨[.val (.int .i64) (.bor true false), .val (.int .i64) (.bor true false), .val (.int .i64) (.bor true false)], [(.int .i64, .bor false true)], ref_Op_F nf, []⟩
theorem ref_Op_ok : FnOK Try.prog 68 := ⟨Try.f68, codeOf Try.f68, Try.func68, by kernel_rfl, by kernel_rfl⟩
theorem ref_Op_holds (nf : Nat) : Contract.Holds Try.prog 68 (ref_Op_C nf) :=
  fn_holds (Φ := ref_Op_phi nf) (keep := ref_Op_keep) (n := nf) ⟨tabs.1, tabs.2, ctx_nil, mixed, bk_ok bkls rfl⟩ (fn := Try.f68) ⟨Try.func68, by kernel_rfl, by kernel_rfl, by kernel_rfl⟩ (fun x => ref_Op_eq nf x.1 x.2.1 x.2.2.1)

/-! codemason codemasonref.Ints -/
def ref_Ints_phi (nf : Nat) : Nat → Option Contract := lookC []
def ref_Ints_keep : Nat → List Nat := lookK [(0, [0, 1, 5])]
def ref_Ints_b0 (nf : Nat) (a : List Int) (b : List Int) (g0 : Int → Option (Bool × Unit)) (i : Int) : Option (Bool × Unit) :=
  bif decide (i < (↑a.length : Int)) then
    bif inb i a.length then
      bif inb i b.length then
        bif a.getD i.toNat 0 != b.getD i.toNat 0 then
          some ((false, ()))
        else
          g0 (IntKind.i64.wrap (i + 1))
      else
        none
    else
      none
  else
    some ((true, ()))
def ref_Ints_p (nf : Nat) (l0 : List Int → List Int → Int → Option (Bool × Unit)) (a : List Int) (b : List Int) : Option (Bool × Unit) :=
  bif (↑a.length : Int) != (↑b.length : Int) then
    some ((false, ()))
  else
    l0 a b 0
def ref_Ints_l0 (nf : Nat) (a : List Int) (b : List Int) : Nat → Int → Option (Bool × Unit)
  | 0, _ => none
  | fu + 1, i => ref_Ints_b0 nf  a b  (ref_Ints_l0 nf a b  fu) i
def ref_Ints_f (nf : Nat) (a : List Int) (b : List Int) : Option (Bool × Unit) := ref_Ints_p nf (fun p0 p1 v0 => ref_Ints_l0 nf p0 p1 nf v0) a b
noncomputable def ref_Ints_L0 (nf : Nat) : LC (Bool × Unit) := theL (findL tab (ref_Ints_phi nf) (fun _ F => iter nf F) ref_Ints_keep 0 0 (codeOf Try.f34) (fin tab [(Ty.bool, Md.bor false true)] (resL ([]) Try.f34)) (fun _ _ => none) (fin tab [(Ty.bool, Md.bor false true)] (resL ([]) Try.f34)))
def ref_Ints_m0 (a : List Int) (b : List Int) (i : Int) : St := ⟨fresh, [(0, AV.v (Ty.int IntKind.i64).sl (Md.bor true false) a), (1, AV.v (Ty.int IntKind.i64).sl (Md.bor true false) b), (5, AV.v (Ty.int IntKind.i64) (Md.bor false true) i)]⟩
theorem ref_Ints_h0 (nf : Nat)  (a : List Int) (b : List Int) (fu : Nat) (i : Int) : iter (fu + 1) (LC.F tab (ref_Ints_phi nf) (fun _ F => iter nf F) ref_Ints_keep 0 (ref_Ints_L0 nf )) (ref_Ints_m0 a b i) = ref_Ints_b0 nf  a b  (fun i => iter fu (LC.F tab (ref_Ints_phi nf) (fun _ F => iter nf F) ref_Ints_keep 0 (ref_Ints_L0 nf )) (ref_Ints_m0 a b i)) i := by kernel_rfl
theorem ref_Ints_e0 (nf : Nat)  (a : List Int) (b : List Int) : ∀ (fu : Nat) (i : Int), iter fu (LC.F tab (ref_Ints_phi nf) (fun _ F => iter nf F) ref_Ints_keep 0 (ref_Ints_L0 nf )) (ref_Ints_m0 a b i) = ref_Ints_l0 nf a b  fu i := by
  intro fu
  induction fu with
  | zero => intros; rfl
  | succ fu ih =>
    intro i
    rw [ref_Ints_h0 nf  a b fu i]
    simp only [ih]
    rfl
theorem ref_Ints_eq (nf : Nat) (a : List Int) (b : List Int) : runF tab (ref_Ints_phi nf) ref_Ints_keep nf [PT.val (Ty.int IntKind.i64).sl (Md.bor true false), PT.val (Ty.int IntKind.i64).sl (Md.bor true false)] [(Ty.bool, Md.bor false true)] (resL ([]) Try.f34) (codeOf Try.f34) ⟨a, b, ()⟩ = ref_Ints_f nf a b := by
  have h : runF tab (ref_Ints_phi nf) ref_Ints_keep nf [PT.val (Ty.int IntKind.i64).sl (Md.bor true false), PT.val (Ty.int IntKind.i64).sl (Md.bor true false)] [(Ty.bool, Md.bor false true)] (resL ([]) Try.f34) (codeOf Try.f34) ⟨a, b, ()⟩ = ref_Ints_p nf (fun p0 p1 v0 => iter nf (LC.F tab (ref_Ints_phi nf) (fun _ F => iter nf F) ref_Ints_keep 0 (ref_Ints_L0 nf)) (ref_Ints_m0 p0 p1 v0)) a b := by kernel_rfl
  rw [h]
  simp only [ref_Ints_e0]
  rfl
def ref_Ints_F (nf : Nat) (x : denPs [.val (.sl (.int .i64)) (.bor true false), .val (.sl (.int .i64)) (.bor true false)]) : Option (denL [(.bool, .bor false true)]) := ref_Ints_f nf x.1 x.2.1
def ref_Ints_C (nf : Nat) : Contract := ⟨[.val (.sl (.int .i64)) (.bor true false), .val (.sl (.int .i64)) (.bor true false)], [(.bool, .bor false true)], ref_Ints_F nf, []⟩
theorem ref_Ints_ok : FnOK Try.prog 34 := ⟨Try.f34, codeOf Try.f34, Try.func34, by kernel_rfl, by kernel_rfl⟩
theorem ref_Ints_holds (nf : Nat) : Contract.Holds Try.prog 34 (ref_Ints_C nf) :=
  fn_holds (Φ := ref_Ints_phi nf) (keep := ref_Ints_keep) (n := nf) ⟨tabs.1, tabs.2, ctx_nil, mixed, bk_ok bkls rfl⟩ (fn := Try.f34) ⟨Try.func34, by kernel_rfl, by kernel_rfl, by kernel_rfl⟩ (fun x => ref_Ints_eq nf x.1 x.2.1)

/-! codemason term.Have 1 -/
def term_Have_1_phi (nf : Nat) : Nat → Option Contract := lookC []
def term_Have_1_keep : Nat → List Nat := lookK []
def term_Have_1_p (nf : Nat)  (x : Int) : Option (Bool × Unit) :=
  bif decide (x < 0) then
    some ((true, ()))
  else
    some ((decide (x > 255), ()))
def term_Have_1_f (nf : Nat) (x : Int) : Option (Bool × Unit) := term_Have_1_p nf  x
theorem term_Have_1_eq (nf : Nat) (x : Int) : runF tab (term_Have_1_phi nf) term_Have_1_keep nf [PT.val (Ty.int IntKind.i64) (Md.bor true false)] [(Ty.bool, Md.bor false true)] (resL ([]) Try.f92) (codeOf Try.f92) ⟨x, ()⟩ = term_Have_1_f nf x := by
  have h : runF tab (term_Have_1_phi nf) term_Have_1_keep nf [PT.val (Ty.int IntKind.i64) (Md.bor true false)] [(Ty.bool, Md.bor false true)] (resL ([]) Try.f92) (codeOf Try.f92) ⟨x, ()⟩ = term_Have_1_p nf  x := by kernel_rfl
  exact h
def term_Have_1_F (nf : Nat) (x : denPs [.val (.int .i64) (.bor true false)]) : Option (denL [(.bool, .bor false true)]) := term_Have_1_f nf x.1
def term_Have_1_C (nf : Nat) : Contract := ⟨[.val (.int .i64) (.bor true false)], [(.bool, .bor false true)], term_Have_1_F nf, []⟩
theorem term_Have_1_ok : FnOK Try.prog 92 := ⟨Try.f92, codeOf Try.f92, Try.func92, by kernel_rfl, by kernel_rfl⟩
theorem term_Have_1_holds (nf : Nat) : Contract.Holds Try.prog 92 (term_Have_1_C nf) :=
  fn_holds (Φ := term_Have_1_phi nf) (keep := term_Have_1_keep) (n := nf) ⟨tabs.1, tabs.2, ctx_nil, mixed, bk_ok bkls rfl⟩ (fn := Try.f92) ⟨Try.func92, by kernel_rfl, by kernel_rfl, by kernel_rfl⟩ (fun x => term_Have_1_eq nf x.1)

/-! slices.IndexFunc   int int  codemason term.Have 1 -/
def slices_IndexFunc__term_Have_1_phi (nf : Nat) : Nat → Option Contract := lookC [(92, term_Have_1_C nf)]
def slices_IndexFunc__term_Have_1_keep : Nat → List Nat := lookK [(0, [0, 1, 7, 8])]
def slices_IndexFunc__term_Have_1_b0 (nf : Nat) (s : List Int) (g0 : Int → Option (Int × Unit)) (t8 : Int) : Option (Int × Unit) :=
  bif decide (t8 < (↑s.length : Int)) then
    bif inb t8 s.length then
      Option.bind (term_Have_1_f nf (s.getD t8.toNat 0)) fun r =>
      bif r.fst then
        some ((t8, ()))
      else
        g0 (IntKind.i64.wrap (t8 + 1))
    else
      none
  else
    some ((-1, ()))
def slices_IndexFunc__term_Have_1_p (nf : Nat) (l0 : List Int → Int → Option (Int × Unit)) (s : List Int) (f : Unit) : Option (Int × Unit) :=
  l0 s 0
def slices_IndexFunc__term_Have_1_l0 (nf : Nat) (s : List Int) : Nat → Int → Option (Int × Unit)
  | 0, _ => none
  | fu + 1, t8 => slices_IndexFunc__term_Have_1_b0 nf  s  (slices_IndexFunc__term_Have_1_l0 nf s  fu) t8
def slices_IndexFunc__term_Have_1_f (nf : Nat) (s : List Int) (f : Unit) : Option (Int × Unit) := slices_IndexFunc__term_Have_1_p nf (fun p0 v0 => slices_IndexFunc__term_Have_1_l0 nf p0 nf v0) s f
noncomputable def slices_IndexFunc__term_Have_1_L0 (nf : Nat) : LC (Int × Unit) := theL (findL tab (slices_IndexFunc__term_Have_1_phi nf) (fun _ F => iter nf F) slices_IndexFunc__term_Have_1_keep 0 0 (codeOf Try.f97) (fin tab [(Ty.int IntKind.i64, Md.bor false true)] (resL ([]) Try.f97)) (fun _ _ => none) (fin tab [(Ty.int IntKind.i64, Md.bor false true)] (resL ([]) Try.f97)))
def slices_IndexFunc__term_Have_1_m0 (s : List Int) (t8 : Int) : St := ⟨fresh, [(0, AV.v (Ty.int IntKind.i64).sl (Md.bor true false) s), (1, AV.clo 92 []), (7, AV.v (Ty.int IntKind.i64) (Md.bor false true) (↑s.length : Int)), (8, AV.v (Ty.int IntKind.i64) (Md.bor false true) t8)]⟩
theorem slices_IndexFunc__term_Have_1_h0 (nf : Nat)  (s : List Int) (fu : Nat) (t8 : Int) : iter (fu + 1) (LC.F tab (slices_IndexFunc__term_Have_1_phi nf) (fun _ F => iter nf F) slices_IndexFunc__term_Have_1_keep 0 (slices_IndexFunc__term_Have_1_L0 nf )) (slices_IndexFunc__term_Have_1_m0 s t8) = slices_IndexFunc__term_Have_1_b0 nf  s  (fun t8 => iter fu (LC.F tab (slices_IndexFunc__term_Have_1_phi nf) (fun _ F => iter nf F) slices_IndexFunc__term_Have_1_keep 0 (slices_IndexFunc__term_Have_1_L0 nf )) (slices_IndexFunc__term_Have_1_m0 s t8)) t8 := by kernel_rfl
theorem slices_IndexFunc__term_Have_1_e0 (nf : Nat)  (s : List Int) : ∀ (fu : Nat) (t8 : Int), iter fu (LC.F tab (slices_IndexFunc__term_Have_1_phi nf) (fun _ F => iter nf F) slices_IndexFunc__term_Have_1_keep 0 (slices_IndexFunc__term_Have_1_L0 nf )) (slices_IndexFunc__term_Have_1_m0 s t8) = slices_IndexFunc__term_Have_1_l0 nf s  fu t8 := by
  intro fu
  induction fu with
  | zero => intros; rfl
  | succ fu ih =>
    intro t8
    rw [slices_IndexFunc__term_Have_1_h0 nf  s fu t8]
    simp only [ih]
    rfl
theorem slices_IndexFunc__term_Have_1_eq (nf : Nat) (s : List Int) (f : Unit) : runF tab (slices_IndexFunc__term_Have_1_phi nf) slices_IndexFunc__term_Have_1_keep nf [PT.val (Ty.int IntKind.i64).sl (Md.bor true false), PT.clo 92 []] [(Ty.int IntKind.i64, Md.bor false true)] (resL ([]) Try.f97) (codeOf Try.f97) ⟨s, f, ()⟩ = slices_IndexFunc__term_Have_1_f nf s f := by
  have h : runF tab (slices_IndexFunc__term_Have_1_phi nf) slices_IndexFunc__term_Have_1_keep nf [PT.val (Ty.int IntKind.i64).sl (Md.bor true false), PT.clo 92 []] [(Ty.int IntKind.i64, Md.bor false true)] (resL ([]) Try.f97) (codeOf Try.f97) ⟨s, f, ()⟩ = slices_IndexFunc__term_Have_1_p nf (fun p0 v0 => iter nf (LC.F tab (slices_IndexFunc__term_Have_1_phi nf) (fun _ F => iter nf F) slices_IndexFunc__term_Have_1_keep 0 (slices_IndexFunc__term_Have_1_L0 nf)) (slices_IndexFunc__term_Have_1_m0 p0 v0)) s f := by kernel_rfl
  rw [h]
  simp only [slices_IndexFunc__term_Have_1_e0]
  rfl
def slices_IndexFunc__term_Have_1_F (nf : Nat) (x : denPs [.val (.sl (.int .i64)) (.bor true false), .clo 92 []]) : Option (denL [(.int .i64, .bor false true)]) := slices_IndexFunc__term_Have_1_f nf x.1 x.2.1
def slices_IndexFunc__term_Have_1_C (nf : Nat) : Contract := ⟨[.val (.sl (.int .i64)) (.bor true false), .clo 92 []], [(.int .i64, .bor false true)], slices_IndexFunc__term_Have_1_F nf, []⟩
theorem slices_IndexFunc__term_Have_1_ok : FnOK Try.prog 97 := ⟨Try.f97, codeOf Try.f97, Try.func97, by kernel_rfl, by kernel_rfl⟩
theorem slices_IndexFunc__term_Have_1_holds (nf : Nat) : Contract.Holds Try.prog 97 (slices_IndexFunc__term_Have_1_C nf) :=
  fn_holds (Φ := slices_IndexFunc__term_Have_1_phi nf) (keep := slices_IndexFunc__term_Have_1_keep) (n := nf) ⟨tabs.1, tabs.2, (ctx_cons term_Have_1_ok (term_Have_1_holds nf) ctx_nil), mixed, bk_ok bkls rfl⟩ (fn := Try.f97) ⟨Try.func97, by kernel_rfl, by kernel_rfl, by kernel_rfl⟩ (fun x => slices_IndexFunc__term_Have_1_eq nf x.1 x.2.1)

/-! slices.ContainsFunc   int int  codemason term.Have 1 -/
def slices_ContainsFunc__term_Have_1_phi (nf : Nat) : Nat → Option Contract := lookC [(97, slices_IndexFunc__term_Have_1_C nf)]
def slices_ContainsFunc__term_Have_1_keep : Nat → List Nat := lookK []
def slices_ContainsFunc__term_Have_1_p (nf : Nat)  (s : List Int) (f : Unit) : Option (Bool × Unit) :=
  Option.bind (slices_IndexFunc__term_Have_1_f nf s (())) fun r =>
  some ((decide (r.fst ≥ 0), ()))
def slices_ContainsFunc__term_Have_1_f (nf : Nat) (s : List Int) (f : Unit) : Option (Bool × Unit) := slices_ContainsFunc__term_Have_1_p nf  s f
theorem slices_ContainsFunc__term_Have_1_eq (nf : Nat) (s : List Int) (f : Unit) : runF tab (slices_ContainsFunc__term_Have_1_phi nf) slices_ContainsFunc__term_Have_1_keep nf [PT.val (Ty.int IntKind.i64).sl (Md.bor true false), PT.clo 92 []] [(Ty.bool, Md.bor false true)] (resL ([]) Try.f91) (codeOf Try.f91) ⟨s, f, ()⟩ = slices_ContainsFunc__term_Have_1_f nf s f := by
  have h : runF tab (slices_ContainsFunc__term_Have_1_phi nf) slices_ContainsFunc__term_Have_1_keep nf [PT.val (Ty.int IntKind.i64).sl (Md.bor true false), PT.clo 92 []] [(Ty.bool, Md.bor false true)] (resL ([]) Try.f91) (codeOf Try.f91) ⟨s, f, ()⟩ = slices_ContainsFunc__term_Have_1_p nf  s f := by kernel_rfl
  exact h
def slices_ContainsFunc__term_Have_1_F (nf : Nat) (x : denPs [.val (.sl (.int .i64)) (.bor true false), .clo 92 []]) : Option (denL [(.bool, .bor false true)]) := slices_ContainsFunc__term_Have_1_f nf x.1 x.2.1
def slices_ContainsFunc__term_Have_1_C (nf : Nat) : Contract := ⟨[.val (.sl (.int .i64)) (.bor true false), .clo 92 []], [(.bool, .bor false true)], slices_ContainsFunc__term_Have_1_F nf, []⟩
theorem slices_ContainsFunc__term_Have_1_ok : FnOK Try.prog 91 := ⟨Try.f91, codeOf Try.f91, Try.func91, by kernel_rfl, by kernel_rfl⟩
theorem slices_ContainsFunc__term_Have_1_holds (nf : Nat) : Contract.Holds Try.prog 91 (slices_ContainsFunc__term_Have_1_C nf) :=
  fn_holds (Φ := slices_ContainsFunc__term_Have_1_phi nf) (keep := slices_ContainsFunc__term_Have_1_keep) (n := nf) ⟨tabs.1, tabs.2, (ctx_cons slices_IndexFunc__term_Have_1_ok (slices_IndexFunc__term_Have_1_holds nf) ctx_nil), mixed, bk_ok bkls rfl⟩ (fn := Try.f91) ⟨Try.func91, by kernel_rfl, by kernel_rfl, by kernel_rfl⟩ (fun x => slices_ContainsFunc__term_Have_1_eq nf x.1 x.2.1)

/-! codemason term.Have -/
def term_Have_phi (nf : Nat) : Nat → Option Contract := lookC [(91, slices_ContainsFunc__term_Have_1_C nf)]
def term_Have_keep : Nat → List Nat := lookK []
def term_Have_p (nf : Nat)  (vars : Int) (have' : List Int) : Option (Int × Unit) :=
  bif (↑have'.length : Int) != vars then
    some ((3, ()))
  else
    Option.bind (slices_ContainsFunc__term_Have_1_f nf have' (())) fun r =>
    bif r.fst then
      some ((4, ()))
    else
      some ((0, ()))
def term_Have_f (nf : Nat) (vars : Int) (have' : List Int) : Option (Int × Unit) := term_Have_p nf  vars have'
theorem term_Have_eq (nf : Nat) (vars : Int) (have' : List Int) : runF tab (term_Have_phi nf) term_Have_keep nf [PT.val (Ty.int IntKind.i64) (Md.bor true false), PT.val (Ty.int IntKind.i64).sl (Md.bor true false)] [(Ty.int IntKind.i64, Md.bor false true)] (resL ([]) Try.f66) (codeOf Try.f66) ⟨vars, have', ()⟩ = term_Have_f nf vars have' := by
  have h : runF tab (term_Have_phi nf) term_Have_keep nf [PT.val (Ty.int IntKind.i64) (Md.bor true false), PT.val (Ty.int IntKind.i64).sl (Md.bor true false)] [(Ty.int IntKind.i64, Md.bor false true)] (resL ([]) Try.f66) (codeOf Try.f66) ⟨vars, have', ()⟩ = term_Have_p nf  vars have' := by kernel_rfl
  exact h
def term_Have_F (nf : Nat) (x : denPs [.val (.int .i64) (.bor true false), .val (.sl (.int .i64)) (.bor true false)]) : Option (denL [(.int .i64, .bor false true)]) := term_Have_f nf x.1 x.2.1
def term_Have_C (nf : Nat) : Contract := ⟨[.val (.int .i64) (.bor true false), .val (.sl (.int .i64)) (.bor true false)], [(.int .i64, .bor false true)], term_Have_F nf, []⟩
theorem term_Have_ok : FnOK Try.prog 66 := ⟨Try.f66, codeOf Try.f66, Try.func66, by kernel_rfl, by kernel_rfl⟩
theorem term_Have_holds (nf : Nat) : Contract.Holds Try.prog 66 (term_Have_C nf) :=
  fn_holds (Φ := term_Have_phi nf) (keep := term_Have_keep) (n := nf) ⟨tabs.1, tabs.2, (ctx_cons slices_ContainsFunc__term_Have_1_ok (slices_ContainsFunc__term_Have_1_holds nf) ctx_nil), mixed, bk_ok bkls rfl⟩ (fn := Try.f66) ⟨Try.func66, by kernel_rfl, by kernel_rfl, by kernel_rfl⟩ (fun x => term_Have_eq nf x.1 x.2.1)

/-! codemason codemasonref.HaveCheck -/
def ref_HaveCheck_phi (nf : Nat) : Nat → Option Contract := lookC [(56, ref_Value_C nf)]
def ref_HaveCheck_keep : Nat → List Nat := lookK [(0, [1, 11, 12, 13])]
def ref_HaveCheck_b0 (nf : Nat) (have' : List Int) (g0 : Int → Option (Int × Unit)) (t13 : Int) : Option (Int × Unit) :=
  bif decide (t13 < (↑have'.length : Int)) then
    bif inb t13 have'.length then
      Option.bind (ref_Value_f nf (have'.getD t13.toNat 0)) fun r =>
      bif !r.fst then
        some ((4, ()))
      else
        g0 (IntKind.i64.wrap (t13 + 1))
    else
      none
  else
    some ((0, ()))
def ref_HaveCheck_p (nf : Nat) (l0 : List Int → Int → Option (Int × Unit)) (vars : Int) (have' : List Int) : Option (Int × Unit) :=
  bif (↑have'.length : Int) != vars then
    some ((3, ()))
  else
    l0 have' 0
def ref_HaveCheck_l0 (nf : Nat) (have' : List Int) : Nat → Int → Option (Int × Unit)
  | 0, _ => none
  | fu + 1, t13 => ref_HaveCheck_b0 nf  have'  (ref_HaveCheck_l0 nf have'  fu) t13
def ref_HaveCheck_f (nf : Nat) (vars : Int) (have' : List Int) : Option (Int × Unit) := ref_HaveCheck_p nf (fun p0 v0 => ref_HaveCheck_l0 nf p0 nf v0) vars have'
noncomputable def ref_HaveCheck_L0 (nf : Nat) : LC (Int × Unit) := theL (findL tab (ref_HaveCheck_phi nf) (fun _ F => iter nf F) ref_HaveCheck_keep 0 0 (codeOf Try.f28) (fin tab [(Ty.int IntKind.i64, Md.bor false true)] (resL ([]) Try.f28)) (fun _ _ => none) (fin tab [(Ty.int IntKind.i64, Md.bor false true)] (resL ([]) Try.f28)))
def ref_HaveCheck_m0 (have' : List Int) (t13 : Int) : St := ⟨fresh, [(1, AV.v (Ty.int IntKind.i64).sl (Md.bor true false) have'), (11, AV.v (Ty.int IntKind.i64).sl (Md.bor true false) have'), (12, AV.v (Ty.int IntKind.i64) (Md.bor false true) (↑have'.length : Int)), (13, AV.v (Ty.int IntKind.i64) (Md.bor false true) t13)]⟩
theorem ref_HaveCheck_h0 (nf : Nat)  (have' : List Int) (fu : Nat) (t13 : Int) : iter (fu + 1) (LC.F tab (ref_HaveCheck_phi nf) (fun _ F => iter nf F) ref_HaveCheck_keep 0 (ref_HaveCheck_L0 nf )) (ref_HaveCheck_m0 have' t13) = ref_HaveCheck_b0 nf  have'  (fun t13 => iter fu (LC.F tab (ref_HaveCheck_phi nf) (fun _ F => iter nf F) ref_HaveCheck_keep 0 (ref_HaveCheck_L0 nf )) (ref_HaveCheck_m0 have' t13)) t13 := by kernel_rfl
theorem ref_HaveCheck_e0 (nf : Nat)  (have' : List Int) : ∀ (fu : Nat) (t13 : Int), iter fu (LC.F tab (ref_HaveCheck_phi nf) (fun _ F => iter nf F) ref_HaveCheck_keep 0 (ref_HaveCheck_L0 nf )) (ref_HaveCheck_m0 have' t13) = ref_HaveCheck_l0 nf have'  fu t13 := by
  intro fu
  induction fu with
  | zero => intros; rfl
  | succ fu ih =>
    intro t13
    rw [ref_HaveCheck_h0 nf  have' fu t13]
    simp only [ih]
    rfl
theorem ref_HaveCheck_eq (nf : Nat) (vars : Int) (have' : List Int) : runF tab (ref_HaveCheck_phi nf) ref_HaveCheck_keep nf [PT.val (Ty.int IntKind.i64) (Md.bor true false), PT.val (Ty.int IntKind.i64).sl (Md.bor true false)] [(Ty.int IntKind.i64, Md.bor false true)] (resL ([]) Try.f28) (codeOf Try.f28) ⟨vars, have', ()⟩ = ref_HaveCheck_f nf vars have' := by
  have h : runF tab (ref_HaveCheck_phi nf) ref_HaveCheck_keep nf [PT.val (Ty.int IntKind.i64) (Md.bor true false), PT.val (Ty.int IntKind.i64).sl (Md.bor true false)] [(Ty.int IntKind.i64, Md.bor false true)] (resL ([]) Try.f28) (codeOf Try.f28) ⟨vars, have', ()⟩ = ref_HaveCheck_p nf (fun p0 v0 => iter nf (LC.F tab (ref_HaveCheck_phi nf) (fun _ F => iter nf F) ref_HaveCheck_keep 0 (ref_HaveCheck_L0 nf)) (ref_HaveCheck_m0 p0 v0)) vars have' := by kernel_rfl
  rw [h]
  simp only [ref_HaveCheck_e0]
  rfl
def ref_HaveCheck_F (nf : Nat) (x : denPs [.val (.int .i64) (.bor true false), .val (.sl (.int .i64)) (.bor true false)]) : Option (denL [(.int .i64, .bor false true)]) := ref_HaveCheck_f nf x.1 x.2.1
def ref_HaveCheck_C (nf : Nat) : Contract := ⟨[.val (.int .i64) (.bor true false), .val (.sl (.int .i64)) (.bor true false)], [(.int .i64, .bor false true)], ref_HaveCheck_F nf, []⟩
theorem ref_HaveCheck_ok : FnOK Try.prog 28 := ⟨Try.f28, codeOf Try.f28, Try.func28, by kernel_rfl, by kernel_rfl⟩
theorem ref_HaveCheck_holds (nf : Nat) : Contract.Holds Try.prog 28 (ref_HaveCheck_C nf) :=
  fn_holds (Φ := ref_HaveCheck_phi nf) (keep := ref_HaveCheck_keep) (n := nf) ⟨tabs.1, tabs.2, (ctx_cons ref_Value_ok (ref_Value_holds nf) ctx_nil), mixed, bk_ok bkls rfl⟩ (fn := Try.f28) ⟨Try.func28, by kernel_rfl, by kernel_rfl, by kernel_rfl⟩ (fun x => ref_HaveCheck_eq nf x.1 x.2.1)

/-! codemason term.Value -/
def term_Value_phi (nf : Nat) : Nat → Option Contract := lookC [(20, term_Check_C nf), (66, term_Have_C nf), (67, term_Do_C nf)]
def term_Value_keep : Nat → List Nat := lookK [(0, [1, 2, 10, 26, 27, 28, 63])]
def term_Value_b0 (nf : Nat) (l' : List (Int × Int × Int × Int × Unit)) (have' : List Int) (g0 : List Int → Int → Option (Int × Int × Unit)) (v : List Int) (t28 : Int) : Option (Int × Int × Unit) :=
  bif decide (t28 < (↑l'.length : Int)) then
    bif inb t28 l'.length then
      bif (l'.getD t28.toNat (0, 0, 0, 0, ())).fst == 2 then
        bif inb (l'.getD t28.toNat (0, 0, 0, 0, ())).snd.snd.snd.fst have'.length then
          bif bimp false ![have'.getD (Int.toNat (l'.getD t28.toNat (0, 0, 0, 0, ())).snd.snd.snd.fst) 0].isEmpty && (v.length + [have'.getD (Int.toNat (l'.getD t28.toNat (0, 0, 0, 0, ())).snd.snd.snd.fst) 0].length).ble lim then
            g0 (v ++ [have'.getD (Int.toNat (l'.getD t28.toNat (0, 0, 0, 0, ())).snd.snd.snd.fst) 0]) (IntKind.i64.wrap (t28 + 1))
          else
            none
        else
          none
      else
        bif decide ((l'.getD t28.toNat (0, 0, 0, 0, ())).fst > 2) then
          bif inb (l'.getD t28.toNat (0, 0, 0, 0, ())).snd.fst v.length then
            bif inb (l'.getD t28.toNat (0, 0, 0, 0, ())).snd.snd.fst v.length then
              Option.bind (term_Do_f nf ((l'.getD t28.toNat (0, 0, 0, 0, ())).fst) (v.getD (Int.toNat (l'.getD t28.toNat (0, 0, 0, 0, ())).snd.fst) 0) (v.getD (Int.toNat (l'.getD t28.toNat (0, 0, 0, 0, ())).snd.snd.fst) 0)) fun r3 =>
              bif bimp false ![r3.fst].isEmpty && (v.length + [r3.fst].length).ble lim then
                g0 (v ++ [r3.fst]) (IntKind.i64.wrap (t28 + 1))
              else
                none
            else
              none
          else
            none
        else
          bif bimp false ![(l'.getD t28.toNat (0, 0, 0, 0, ())).snd.snd.snd.fst].isEmpty && (v.length + [(l'.getD t28.toNat (0, 0, 0, 0, ())).snd.snd.snd.fst].length).ble lim then
            g0 (v ++ [(l'.getD t28.toNat (0, 0, 0, 0, ())).snd.snd.snd.fst]) (IntKind.i64.wrap (t28 + 1))
          else
            none
    else
      none
  else
    bif inb (IntKind.i64.wrap ((↑v.length : Int) - 1)) v.length then
      some ((v.getD (IntKind.i64.wrap ((↑v.length : Int) - 1)).toNat 0, 0, ()))
    else
      none
def term_Value_p (nf : Nat) (l0 : List (Int × Int × Int × Int × Unit) → List Int → List Int → Int → Option (Int × Int × Unit)) (vars : Int) (l' : List (Int × Int × Int × Int × Unit)) (have' : List Int) : Option (Int × Int × Unit) :=
  Option.bind (term_Check_f nf vars l') fun r =>
  bif r.fst != 0 then
    some ((0, r.fst, ()))
  else
    Option.bind (term_Have_f nf vars have') fun r2 =>
    bif r2.fst != 0 then
      some ((0, r2.fst, ()))
    else
      l0 l' have' [] 0
def term_Value_l0 (nf : Nat) (l' : List (Int × Int × Int × Int × Unit)) (have' : List Int) : Nat → List Int → Int → Option (Int × Int × Unit)
  | 0, _, _ => none
  | fu + 1, v, t28 => term_Value_b0 nf  l' have'  (term_Value_l0 nf l' have'  fu) v t28
def term_Value_f (nf : Nat) (vars : Int) (l' : List (Int × Int × Int × Int × Unit)) (have' : List Int) : Option (Int × Int × Unit) := term_Value_p nf (fun p0 p1 v0 v1 => term_Value_l0 nf p0 p1 nf v0 v1) vars l' have'
noncomputable def term_Value_L0 (nf : Nat) : LC (Int × Int × Unit) := theL (findL tab (term_Value_phi nf) (fun _ F => iter nf F) term_Value_keep 0 0 (codeOf Try.f24) (fin tab [(Ty.int IntKind.i64, Md.bor false true), (Ty.int IntKind.i64, Md.bor false true)] (resL ([]) Try.f24)) (fun _ _ => none) (fin tab [(Ty.int IntKind.i64, Md.bor false true), (Ty.int IntKind.i64, Md.bor false true)] (resL ([]) Try.f24)))
def term_Value_m0 (l' : List (Int × Int × Int × Int × Unit)) (have' : List Int) (v : List Int) (t28 : Int) : St := ⟨fresh, [(1, AV.v ((Ty.int IntKind.i64).pair ((Ty.int IntKind.i64).pair ((Ty.int IntKind.i64).pair ((Ty.int IntKind.i64).pair Ty.unit)))).sl (Md.bor true false) l'), (2, AV.v (Ty.int IntKind.i64).sl (Md.bor true false) have'), (10, AV.ow 500010 (Ty.int IntKind.i64).sl (Md.own false (Md.bor false false)) v), (26, AV.v ((Ty.int IntKind.i64).pair ((Ty.int IntKind.i64).pair ((Ty.int IntKind.i64).pair ((Ty.int IntKind.i64).pair Ty.unit)))).sl (Md.bor true false) l'), (27, AV.v (Ty.int IntKind.i64) (Md.bor false true) (↑l'.length : Int)), (28, AV.v (Ty.int IntKind.i64) (Md.bor false true) t28), (63, AV.dead)]⟩
theorem term_Value_h0 (nf : Nat)  (l' : List (Int × Int × Int × Int × Unit)) (have' : List Int) (fu : Nat) (v : List Int) (t28 : Int) : iter (fu + 1) (LC.F tab (term_Value_phi nf) (fun _ F => iter nf F) term_Value_keep 0 (term_Value_L0 nf )) (term_Value_m0 l' have' v t28) = term_Value_b0 nf  l' have'  (fun v t28 => iter fu (LC.F tab (term_Value_phi nf) (fun _ F => iter nf F) term_Value_keep 0 (term_Value_L0 nf )) (term_Value_m0 l' have' v t28)) v t28 := by kernel_rfl
theorem term_Value_e0 (nf : Nat)  (l' : List (Int × Int × Int × Int × Unit)) (have' : List Int) : ∀ (fu : Nat) (v : List Int) (t28 : Int), iter fu (LC.F tab (term_Value_phi nf) (fun _ F => iter nf F) term_Value_keep 0 (term_Value_L0 nf )) (term_Value_m0 l' have' v t28) = term_Value_l0 nf l' have'  fu v t28 := by
  intro fu
  induction fu with
  | zero => intros; rfl
  | succ fu ih =>
    intro v t28
    rw [term_Value_h0 nf  l' have' fu v t28]
    simp only [ih]
    rfl
theorem term_Value_eq (nf : Nat) (vars : Int) (l' : List (Int × Int × Int × Int × Unit)) (have' : List Int) : runF tab (term_Value_phi nf) term_Value_keep nf [PT.val (Ty.int IntKind.i64) (Md.bor true false), PT.val ((Ty.int IntKind.i64).pair ((Ty.int IntKind.i64).pair ((Ty.int IntKind.i64).pair ((Ty.int IntKind.i64).pair Ty.unit)))).sl (Md.bor true false), PT.val (Ty.int IntKind.i64).sl (Md.bor true false)] [(Ty.int IntKind.i64, Md.bor false true), (Ty.int IntKind.i64, Md.bor false true)] (resL ([]) Try.f24) (codeOf Try.f24) ⟨vars, l', have', ()⟩ = term_Value_f nf vars l' have' := by
  have h : runF tab (term_Value_phi nf) term_Value_keep nf [PT.val (Ty.int IntKind.i64) (Md.bor true false), PT.val ((Ty.int IntKind.i64).pair ((Ty.int IntKind.i64).pair ((Ty.int IntKind.i64).pair ((Ty.int IntKind.i64).pair Ty.unit)))).sl (Md.bor true false), PT.val (Ty.int IntKind.i64).sl (Md.bor true false)] [(Ty.int IntKind.i64, Md.bor false true), (Ty.int IntKind.i64, Md.bor false true)] (resL ([]) Try.f24) (codeOf Try.f24) ⟨vars, l', have', ()⟩ = term_Value_p nf (fun p0 p1 v0 v1 => iter nf (LC.F tab (term_Value_phi nf) (fun _ F => iter nf F) term_Value_keep 0 (term_Value_L0 nf)) (term_Value_m0 p0 p1 v0 v1)) vars l' have' := by kernel_rfl
  rw [h]
  simp only [term_Value_e0]
  rfl
def term_Value_F (nf : Nat) (x : denPs [.val (.int .i64) (.bor true false), .val (.sl (.pair (.int .i64) (.pair (.int .i64) (.pair (.int .i64) (.pair (.int .i64) (.unit)))))) (.bor true false), .val (.sl (.int .i64)) (.bor true false)]) : Option (denL [(.int .i64, .bor false true), (.int .i64, .bor false true)]) := term_Value_f nf x.1 x.2.1 x.2.2.1
def term_Value_C (nf : Nat) : Contract := ⟨[.val (.int .i64) (.bor true false), .val (.sl (.pair (.int .i64) (.pair (.int .i64) (.pair (.int .i64) (.pair (.int .i64) (.unit)))))) (.bor true false), .val (.sl (.int .i64)) (.bor true false)], [(.int .i64, .bor false true), (.int .i64, .bor false true)], term_Value_F nf, []⟩
theorem term_Value_ok : FnOK Try.prog 24 := ⟨Try.f24, codeOf Try.f24, Try.func24, by kernel_rfl, by kernel_rfl⟩
theorem term_Value_holds (nf : Nat) : Contract.Holds Try.prog 24 (term_Value_C nf) :=
  fn_holds (Φ := term_Value_phi nf) (keep := term_Value_keep) (n := nf) ⟨tabs.1, tabs.2, (ctx_cons term_Check_ok (term_Check_holds nf) (ctx_cons term_Have_ok (term_Have_holds nf) (ctx_cons term_Do_ok (term_Do_holds nf) ctx_nil))), mixed, bk_ok bkls rfl⟩ (fn := Try.f24) ⟨Try.func24, by kernel_rfl, by kernel_rfl, by kernel_rfl⟩ (fun x => term_Value_eq nf x.1 x.2.1 x.2.2.1)

/-! codemason codemasonref.Term -/
def ref_Term_phi (nf : Nat) : Nat → Option Contract := lookC [(68, ref_Op_C nf)]
def ref_Term_keep : Nat → List Nat := lookK [(0, [0, 1, 5, 10, 11, 12, 13])]
def ref_Term_b0 (nf : Nat) (l' : List (Int × Int × Int × Int × Unit)) (have' : List Int) (g0 : List Int → Int → Option (Int × Unit)) (v : List Int) (t13 : Int) : Option (Int × Unit) :=
  bif decide (t13 < (↑l'.length : Int)) then
    bif inb t13 l'.length then
      bif (l'.getD t13.toNat (0, 0, 0, 0, ())).fst == 1 then
        bif inb t13 v.length then
          g0 (v.set t13.toNat (l'.getD t13.toNat (0, 0, 0, 0, ())).snd.snd.snd.fst) (IntKind.i64.wrap (t13 + 1))
        else
          none
      else
        bif (l'.getD t13.toNat (0, 0, 0, 0, ())).fst == 2 then
          bif inb (l'.getD t13.toNat (0, 0, 0, 0, ())).snd.snd.snd.fst have'.length then
            bif inb t13 v.length then
              g0 (v.set t13.toNat (have'.getD (Int.toNat (l'.getD t13.toNat (0, 0, 0, 0, ())).snd.snd.snd.fst) 0)) (IntKind.i64.wrap (t13 + 1))
            else
              none
          else
            none
        else
          bif inb (l'.getD t13.toNat (0, 0, 0, 0, ())).snd.fst v.length then
            bif inb (l'.getD t13.toNat (0, 0, 0, 0, ())).snd.snd.fst v.length then
              Option.bind (ref_Op_f nf ((l'.getD t13.toNat (0, 0, 0, 0, ())).fst) (v.getD (Int.toNat (l'.getD t13.toNat (0, 0, 0, 0, ())).snd.fst) 0) (v.getD (Int.toNat (l'.getD t13.toNat (0, 0, 0, 0, ())).snd.snd.fst) 0)) fun r =>
              bif inb t13 v.length then
                g0 (v.set t13.toNat r.fst) (IntKind.i64.wrap (t13 + 1))
              else
                none
            else
              none
          else
            none
    else
      none
  else
    bif inb (IntKind.i64.wrap ((↑l'.length : Int) - 1)) v.length then
      some ((v.getD (IntKind.i64.wrap ((↑l'.length : Int) - 1)).toNat 0, ()))
    else
      none
def ref_Term_p (nf : Nat) (l0 : List (Int × Int × Int × Int × Unit) → List Int → List Int → Int → Option (Int × Unit)) (l' : List (Int × Int × Int × Int × Unit)) (have' : List Int) : Option (Int × Unit) :=
  bif decide (0 ≤ (↑l'.length : Int)) && decide ((↑l'.length : Int) ≤ (↑l'.length : Int)) && decide ((↑l'.length : Int) ≤ (↑lim : Int)) then
    l0 l' have' (List.replicate (↑l'.length : Int).toNat 0) 0
  else
    none
def ref_Term_l0 (nf : Nat) (l' : List (Int × Int × Int × Int × Unit)) (have' : List Int) : Nat → List Int → Int → Option (Int × Unit)
  | 0, _, _ => none
  | fu + 1, v, t13 => ref_Term_b0 nf  l' have'  (ref_Term_l0 nf l' have'  fu) v t13
def ref_Term_f (nf : Nat) (l' : List (Int × Int × Int × Int × Unit)) (have' : List Int) : Option (Int × Unit) := ref_Term_p nf (fun p0 p1 v0 v1 => ref_Term_l0 nf p0 p1 nf v0 v1) l' have'
noncomputable def ref_Term_L0 (nf : Nat) : LC (Int × Unit) := theL (findL tab (ref_Term_phi nf) (fun _ F => iter nf F) ref_Term_keep 0 0 (codeOf Try.f26) (fin tab [(Ty.int IntKind.i64, Md.bor false true)] (resL ([]) Try.f26)) (fun _ _ => none) (fin tab [(Ty.int IntKind.i64, Md.bor false true)] (resL ([]) Try.f26)))
def ref_Term_m0 (l' : List (Int × Int × Int × Int × Unit)) (have' : List Int) (v : List Int) (t13 : Int) : St := ⟨fresh, [(0, AV.v ((Ty.int IntKind.i64).pair ((Ty.int IntKind.i64).pair ((Ty.int IntKind.i64).pair ((Ty.int IntKind.i64).pair Ty.unit)))).sl (Md.bor true false) l'), (1, AV.v (Ty.int IntKind.i64).sl (Md.bor true false) have'), (5, AV.ow 500005 (Ty.int IntKind.i64).sl (Md.own false (Md.bor false false)) v), (10, AV.dead), (11, AV.v ((Ty.int IntKind.i64).pair ((Ty.int IntKind.i64).pair ((Ty.int IntKind.i64).pair ((Ty.int IntKind.i64).pair Ty.unit)))).sl (Md.bor true false) l'), (12, AV.v (Ty.int IntKind.i64) (Md.bor false true) (↑l'.length : Int)), (13, AV.v (Ty.int IntKind.i64) (Md.bor false true) t13)]⟩
theorem ref_Term_h0 (nf : Nat)  (l' : List (Int × Int × Int × Int × Unit)) (have' : List Int) (fu : Nat) (v : List Int) (t13 : Int) : iter (fu + 1) (LC.F tab (ref_Term_phi nf) (fun _ F => iter nf F) ref_Term_keep 0 (ref_Term_L0 nf )) (ref_Term_m0 l' have' v t13) = ref_Term_b0 nf  l' have'  (fun v t13 => iter fu (LC.F tab (ref_Term_phi nf) (fun _ F => iter nf F) ref_Term_keep 0 (ref_Term_L0 nf )) (ref_Term_m0 l' have' v t13)) v t13 := by kernel_rfl
theorem ref_Term_e0 (nf : Nat)  (l' : List (Int × Int × Int × Int × Unit)) (have' : List Int) : ∀ (fu : Nat) (v : List Int) (t13 : Int), iter fu (LC.F tab (ref_Term_phi nf) (fun _ F => iter nf F) ref_Term_keep 0 (ref_Term_L0 nf )) (ref_Term_m0 l' have' v t13) = ref_Term_l0 nf l' have'  fu v t13 := by
  intro fu
  induction fu with
  | zero => intros; rfl
  | succ fu ih =>
    intro v t13
    rw [ref_Term_h0 nf  l' have' fu v t13]
    simp only [ih]
    rfl
theorem ref_Term_eq (nf : Nat) (l' : List (Int × Int × Int × Int × Unit)) (have' : List Int) : runF tab (ref_Term_phi nf) ref_Term_keep nf [PT.val ((Ty.int IntKind.i64).pair ((Ty.int IntKind.i64).pair ((Ty.int IntKind.i64).pair ((Ty.int IntKind.i64).pair Ty.unit)))).sl (Md.bor true false), PT.val (Ty.int IntKind.i64).sl (Md.bor true false)] [(Ty.int IntKind.i64, Md.bor false true)] (resL ([]) Try.f26) (codeOf Try.f26) ⟨l', have', ()⟩ = ref_Term_f nf l' have' := by
  have h : runF tab (ref_Term_phi nf) ref_Term_keep nf [PT.val ((Ty.int IntKind.i64).pair ((Ty.int IntKind.i64).pair ((Ty.int IntKind.i64).pair ((Ty.int IntKind.i64).pair Ty.unit)))).sl (Md.bor true false), PT.val (Ty.int IntKind.i64).sl (Md.bor true false)] [(Ty.int IntKind.i64, Md.bor false true)] (resL ([]) Try.f26) (codeOf Try.f26) ⟨l', have', ()⟩ = ref_Term_p nf (fun p0 p1 v0 v1 => iter nf (LC.F tab (ref_Term_phi nf) (fun _ F => iter nf F) ref_Term_keep 0 (ref_Term_L0 nf)) (ref_Term_m0 p0 p1 v0 v1)) l' have' := by kernel_rfl
  rw [h]
  simp only [ref_Term_e0]
  rfl
def ref_Term_F (nf : Nat) (x : denPs [.val (.sl (.pair (.int .i64) (.pair (.int .i64) (.pair (.int .i64) (.pair (.int .i64) (.unit)))))) (.bor true false), .val (.sl (.int .i64)) (.bor true false)]) : Option (denL [(.int .i64, .bor false true)]) := ref_Term_f nf x.1 x.2.1
def ref_Term_C (nf : Nat) : Contract := ⟨[.val (.sl (.pair (.int .i64) (.pair (.int .i64) (.pair (.int .i64) (.pair (.int .i64) (.unit)))))) (.bor true false), .val (.sl (.int .i64)) (.bor true false)], [(.int .i64, .bor false true)], ref_Term_F nf, []⟩
theorem ref_Term_ok : FnOK Try.prog 26 := ⟨Try.f26, codeOf Try.f26, Try.func26, by kernel_rfl, by kernel_rfl⟩
theorem ref_Term_holds (nf : Nat) : Contract.Holds Try.prog 26 (ref_Term_C nf) :=
  fn_holds (Φ := ref_Term_phi nf) (keep := ref_Term_keep) (n := nf) ⟨tabs.1, tabs.2, (ctx_cons ref_Op_ok (ref_Op_holds nf) ctx_nil), mixed, bk_ok bkls rfl⟩ (fn := Try.f26) ⟨Try.func26, by kernel_rfl, by kernel_rfl, by kernel_rfl⟩ (fun x => ref_Term_eq nf x.1 x.2.1)

/-! codemason block.step 1 -/
def block_step_1_phi (nf : Nat) : Nat → Option Contract := lookC []
def block_step_1_keep : Nat → List Nat := lookK []
def block_step_1_p (nf : Nat)  (i : Int) (c1 : Int) : Option (Bool × Unit) :=
  bif decide (i ≥ 0) then
    some ((decide (i < c1), ()))
  else
    some ((false, ()))
def block_step_1_f (nf : Nat) (i : Int) (c1 : Int) : Option (Bool × Unit) := block_step_1_p nf  i c1
theorem block_step_1_eq (nf : Nat) (i : Int) (c1 : Int) : runF tab (block_step_1_phi nf) block_step_1_keep nf [PT.val (Ty.int IntKind.i64) (Md.bor true false), PT.ptr (Ty.int IntKind.i64) (Md.bor true false)] [(Ty.bool, Md.bor false true)] (resL ([]) Try.f100) (codeOf Try.f100) ⟨i, c1, ()⟩ = block_step_1_f nf i c1 := by
  have h : runF tab (block_step_1_phi nf) block_step_1_keep nf [PT.val (Ty.int IntKind.i64) (Md.bor true false), PT.ptr (Ty.int IntKind.i64) (Md.bor true false)] [(Ty.bool, Md.bor false true)] (resL ([]) Try.f100) (codeOf Try.f100) ⟨i, c1, ()⟩ = block_step_1_p nf  i c1 := by kernel_rfl
  exact h
def block_step_1_F (nf : Nat) (x : denPs [.val (.int .i64) (.bor true false), .ptr (.int .i64) (.bor true false)]) : Option (denL [(.bool, .bor false true)]) := block_step_1_f nf x.1 x.2.1
def block_step_1_C (nf : Nat) : Contract := ⟨[.val (.int .i64) (.bor true false), .ptr (.int .i64) (.bor true false)], [(.bool, .bor false true)], block_step_1_F nf, []⟩
theorem block_step_1_ok : FnOK Try.prog 100 := ⟨Try.f100, codeOf Try.f100, Try.func100, by kernel_rfl, by kernel_rfl⟩
theorem block_step_1_holds (nf : Nat) : Contract.Holds Try.prog 100 (block_step_1_C nf) :=
  fn_holds (Φ := block_step_1_phi nf) (keep := block_step_1_keep) (n := nf) ⟨tabs.1, tabs.2, ctx_nil, mixed, bk_ok bkls rfl⟩ (fn := Try.f100) ⟨Try.func100, by kernel_rfl, by kernel_rfl, by kernel_rfl⟩ (fun x => block_step_1_eq nf x.1 x.2.1)

/-! codemason block.step -/
def block_step_phi (nf : Nat) : Nat → Option Contract := lookC [(100, block_step_1_C nf)]
def block_step_keep : Nat → List Nat := lookK []
def block_step_p (nf : Nat)  (vars : Int) (s : Int × Int × Int × Int × Int × Unit) : Option (Int × Unit) :=
  bif decide (s.fst < 1) then
    some ((6, ()))
  else
    bif decide (s.fst > 6) then
      some ((6, ()))
    else
      bif s.fst == 1 then
        bif decide (s.snd.snd.snd.snd.fst < 0) then
          some ((4, ()))
        else
          bif decide (s.snd.snd.snd.snd.fst > 255) then
            some ((4, ()))
          else
            bif s.fst == 2 then
              Option.bind (block_step_1_f nf s.snd.snd.snd.snd.fst vars) fun r =>
              bif !r.fst then
                some ((4, ()))
              else
                Option.bind (block_step_1_f nf s.snd.fst vars) fun r2 =>
                bif !r2.fst then
                  some ((2, ()))
                else
                  bif decide (s.fst > 2) then
                    Option.bind (block_step_1_f nf s.snd.snd.fst vars) fun r3 =>
                    bif !r3.fst then
                      some ((2, ()))
                    else
                      Option.bind (block_step_1_f nf s.snd.snd.snd.fst vars) fun r4 =>
                      bif !r4.fst then
                        some ((2, ()))
                      else
                        some ((0, ()))
                  else
                    some ((0, ()))
            else
              Option.bind (block_step_1_f nf s.snd.fst vars) fun r5 =>
              bif !r5.fst then
                some ((2, ()))
              else
                bif decide (s.fst > 2) then
                  Option.bind (block_step_1_f nf s.snd.snd.fst vars) fun r6 =>
                  bif !r6.fst then
                    some ((2, ()))
                  else
                    Option.bind (block_step_1_f nf s.snd.snd.snd.fst vars) fun r7 =>
                    bif !r7.fst then
                      some ((2, ()))
                    else
                      some ((0, ()))
                else
                  some ((0, ()))
      else
        bif s.fst == 2 then
          Option.bind (block_step_1_f nf s.snd.snd.snd.snd.fst vars) fun r8 =>
          bif !r8.fst then
            some ((4, ()))
          else
            Option.bind (block_step_1_f nf s.snd.fst vars) fun r9 =>
            bif !r9.fst then
              some ((2, ()))
            else
              bif decide (s.fst > 2) then
                Option.bind (block_step_1_f nf s.snd.snd.fst vars) fun r10 =>
                bif !r10.fst then
                  some ((2, ()))
                else
                  Option.bind (block_step_1_f nf s.snd.snd.snd.fst vars) fun r11 =>
                  bif !r11.fst then
                    some ((2, ()))
                  else
                    some ((0, ()))
              else
                some ((0, ()))
        else
          Option.bind (block_step_1_f nf s.snd.fst vars) fun r12 =>
          bif !r12.fst then
            some ((2, ()))
          else
            bif decide (s.fst > 2) then
              Option.bind (block_step_1_f nf s.snd.snd.fst vars) fun r13 =>
              bif !r13.fst then
                some ((2, ()))
              else
                Option.bind (block_step_1_f nf s.snd.snd.snd.fst vars) fun r14 =>
                bif !r14.fst then
                  some ((2, ()))
                else
                  some ((0, ()))
            else
              some ((0, ()))
def block_step_f (nf : Nat) (vars : Int) (s : Int × Int × Int × Int × Int × Unit) : Option (Int × Unit) := block_step_p nf  vars s
theorem block_step_eq (nf : Nat) (vars : Int) (s : Int × Int × Int × Int × Int × Unit) : runF tab (block_step_phi nf) block_step_keep nf [PT.val (Ty.int IntKind.i64) (Md.bor true false), PT.val ((Ty.int IntKind.i64).pair ((Ty.int IntKind.i64).pair ((Ty.int IntKind.i64).pair ((Ty.int IntKind.i64).pair ((Ty.int IntKind.i64).pair Ty.unit))))) (Md.bor true false)] [(Ty.int IntKind.i64, Md.bor false true)] (resL ([]) Try.f98) (codeOf Try.f98) ⟨vars, s, ()⟩ = block_step_f nf vars s := by
  have h : runF tab (block_step_phi nf) block_step_keep nf [PT.val (Ty.int IntKind.i64) (Md.bor true false), PT.val ((Ty.int IntKind.i64).pair ((Ty.int IntKind.i64).pair ((Ty.int IntKind.i64).pair ((Ty.int IntKind.i64).pair ((Ty.int IntKind.i64).pair Ty.unit))))) (Md.bor true false)] [(Ty.int IntKind.i64, Md.bor false true)] (resL ([]) Try.f98) (codeOf Try.f98) ⟨vars, s, ()⟩ = block_step_p nf  vars s := by kernel_rfl
  exact h
def block_step_F (nf : Nat) (x : denPs [.val (.int .i64) (.bor true false), .val (.pair (.int .i64) (.pair (.int .i64) (.pair (.int .i64) (.pair (.int .i64) (.pair (.int .i64) (.unit)))))) (.bor true false)]) : Option (denL [(.int .i64, .bor false true)]) := block_step_f nf x.1 x.2.1
def block_step_C (nf : Nat) : Contract := ⟨[.val (.int .i64) (.bor true false), .val (.pair (.int .i64) (.pair (.int .i64) (.pair (.int .i64) (.pair (.int .i64) (.pair (.int .i64) (.unit)))))) (.bor true false)], [(.int .i64, .bor false true)], block_step_F nf, []⟩
theorem block_step_ok : FnOK Try.prog 98 := ⟨Try.f98, codeOf Try.f98, Try.func98, by kernel_rfl, by kernel_rfl⟩
theorem block_step_holds (nf : Nat) : Contract.Holds Try.prog 98 (block_step_C nf) :=
  fn_holds (Φ := block_step_phi nf) (keep := block_step_keep) (n := nf) ⟨tabs.1, tabs.2, (ctx_cons block_step_1_ok (block_step_1_holds nf) ctx_nil), mixed, bk_ok bkls rfl⟩ (fn := Try.f98) ⟨Try.func98, by kernel_rfl, by kernel_rfl, by kernel_rfl⟩ (fun x => block_step_eq nf x.1 x.2.1)

/-! codemason block.Check 1 -/
def block_Check_1_phi (nf : Nat) : Nat → Option Contract := lookC []
def block_Check_1_keep : Nat → List Nat := lookK []
def block_Check_1_p (nf : Nat)  (i : Int) (c1 : List (List (Int × Int × Int × Int × Int × Unit) × Int × Int × Int × Unit)) : Option (Bool × Unit) :=
  bif decide (i ≥ 0) then
    some ((decide (i < (↑c1.length : Int)), ()))
  else
    some ((false, ()))
def block_Check_1_f (nf : Nat) (i : Int) (c1 : List (List (Int × Int × Int × Int × Int × Unit) × Int × Int × Int × Unit)) : Option (Bool × Unit) := block_Check_1_p nf  i c1
theorem block_Check_1_eq (nf : Nat) (i : Int) (c1 : List (List (Int × Int × Int × Int × Int × Unit) × Int × Int × Int × Unit)) : runF tab (block_Check_1_phi nf) block_Check_1_keep nf [PT.val (Ty.int IntKind.i64) (Md.bor true false), PT.ptr (((Ty.int IntKind.i64).pair ((Ty.int IntKind.i64).pair ((Ty.int IntKind.i64).pair ((Ty.int IntKind.i64).pair ((Ty.int IntKind.i64).pair Ty.unit))))).sl.pair ((Ty.int IntKind.i64).pair ((Ty.int IntKind.i64).pair ((Ty.int IntKind.i64).pair Ty.unit)))).sl (Md.bor true false)] [(Ty.bool, Md.bor false true)] (resL ([]) Try.f99) (codeOf Try.f99) ⟨i, c1, ()⟩ = block_Check_1_f nf i c1 := by
  have h : runF tab (block_Check_1_phi nf) block_Check_1_keep nf [PT.val (Ty.int IntKind.i64) (Md.bor true false), PT.ptr (((Ty.int IntKind.i64).pair ((Ty.int IntKind.i64).pair ((Ty.int IntKind.i64).pair ((Ty.int IntKind.i64).pair ((Ty.int IntKind.i64).pair Ty.unit))))).sl.pair ((Ty.int IntKind.i64).pair ((Ty.int IntKind.i64).pair ((Ty.int IntKind.i64).pair Ty.unit)))).sl (Md.bor true false)] [(Ty.bool, Md.bor false true)] (resL ([]) Try.f99) (codeOf Try.f99) ⟨i, c1, ()⟩ = block_Check_1_p nf  i c1 := by kernel_rfl
  exact h
def block_Check_1_F (nf : Nat) (x : denPs [.val (.int .i64) (.bor true false), .ptr (.sl (.pair (.sl (.pair (.int .i64) (.pair (.int .i64) (.pair (.int .i64) (.pair (.int .i64) (.pair (.int .i64) (.unit))))))) (.pair (.int .i64) (.pair (.int .i64) (.pair (.int .i64) (.unit)))))) (.bor true false)]) : Option (denL [(.bool, .bor false true)]) := block_Check_1_f nf x.1 x.2.1
def block_Check_1_C (nf : Nat) : Contract := ⟨[.val (.int .i64) (.bor true false), .ptr (.sl (.pair (.sl (.pair (.int .i64) (.pair (.int .i64) (.pair (.int .i64) (.pair (.int .i64) (.pair (.int .i64) (.unit))))))) (.pair (.int .i64) (.pair (.int .i64) (.pair (.int .i64) (.unit)))))) (.bor true false)], [(.bool, .bor false true)], block_Check_1_F nf, []⟩
theorem block_Check_1_ok : FnOK Try.prog 99 := ⟨Try.f99, codeOf Try.f99, Try.func99, by kernel_rfl, by kernel_rfl⟩
theorem block_Check_1_holds (nf : Nat) : Contract.Holds Try.prog 99 (block_Check_1_C nf) :=
  fn_holds (Φ := block_Check_1_phi nf) (keep := block_Check_1_keep) (n := nf) ⟨tabs.1, tabs.2, ctx_nil, mixed, bk_ok bkls rfl⟩ (fn := Try.f99) ⟨Try.func99, by kernel_rfl, by kernel_rfl, by kernel_rfl⟩ (fun x => block_Check_1_eq nf x.1 x.2.1)

/-! codemason block.Check -/
def block_Check_phi (nf : Nat) : Nat → Option Contract := lookC [(98, block_step_C nf), (99, block_Check_1_C nf)]
def block_Check_keep : Nat → List Nat := lookK [(4, [0, 1, 3, 9, 46, 47, 48, 52, 53, 54, 55]), (2, [0, 1, 3, 46, 47, 48]), (0, [0, 1, 3, 5, 14, 15, 16])]
def block_Check_b0 (nf : Nat) (l2 : Int → List (List (Int × Int × Int × Int × Int × Unit) × Int × Int × Int × Unit) → List (List (Int × Int × Int × Int × Int × Unit) × Int × Int × Int × Unit) → List (List (Int × Int × Int × Int × Int × Unit) × Int × Int × Int × Unit) → Int → Option (Int × Unit)) (vars : Int) (p : List (List (Int × Int × Int × Int × Int × Unit) × Int × Int × Int × Unit)) (g0 : List (List (Int × Int × Int × Int × Int × Unit) × Int × Int × Int × Unit) → Int → Int → Option (Int × Unit)) (p2 : List (List (Int × Int × Int × Int × Int × Unit) × Int × Int × Int × Unit)) (many : Int) (t16 : Int) : Option (Int × Unit) :=
  bif decide (t16 < (↑p.length : Int)) then
    bif inb t16 p.length then
      g0 p2 (IntKind.i64.wrap (many + (↑(List.length (p.getD t16.toNat ([], 0, 0, 0, ())).fst) : Int))) (IntKind.i64.wrap (t16 + 1))
    else
      none
  else
    bif decide (vars < 1) then
      some ((1, ()))
    else
      bif decide (vars > 6) then
        some ((1, ()))
      else
        bif decide ((↑p2.length : Int) < 1) then
          some ((1, ()))
        else
          bif decide ((↑p2.length : Int) > 8) then
            some ((1, ()))
          else
            bif decide (many > 20) then
              some ((1, ()))
            else
              l2 vars p p2 p2 0
def block_Check_b2 (nf : Nat) (l4 : Int → List (List (Int × Int × Int × Int × Int × Unit) × Int × Int × Int × Unit) → List (List (Int × Int × Int × Int × Int × Unit) × Int × Int × Int × Unit) → Int → List (List (Int × Int × Int × Int × Int × Unit) × Int × Int × Int × Unit) → List (Int × Int × Int × Int × Int × Unit) × Int × Int × Int × Unit → Int → Option (Int × Unit)) (vars : Int) (p : List (List (Int × Int × Int × Int × Int × Unit) × Int × Int × Int × Unit)) (p2 : List (List (Int × Int × Int × Int × Int × Unit) × Int × Int × Int × Unit)) (g2 : List (List (Int × Int × Int × Int × Int × Unit) × Int × Int × Int × Unit) → Int → Option (Int × Unit)) (p3 : List (List (Int × Int × Int × Int × Int × Unit) × Int × Int × Int × Unit)) (t48 : Int) : Option (Int × Unit) :=
  bif decide (t48 < (↑p2.length : Int)) then
    bif inb t48 p2.length then
      l4 vars p p2 t48 p3 (p2.getD t48.toNat ([], 0, 0, 0, ())) 0
    else
      none
  else
    some ((0, ()))
def block_Check_b4 (nf : Nat) (vars : Int) (p : List (List (Int × Int × Int × Int × Int × Unit) × Int × Int × Int × Unit)) (p2 : List (List (Int × Int × Int × Int × Int × Unit) × Int × Int × Int × Unit)) (t48 : Int) (g2 : List (List (Int × Int × Int × Int × Int × Unit) × Int × Int × Int × Unit) → Int → Option (Int × Unit)) (g4 : List (List (Int × Int × Int × Int × Int × Unit) × Int × Int × Int × Unit) → List (Int × Int × Int × Int × Int × Unit) × Int × Int × Int × Unit → Int → Option (Int × Unit)) (p4 : List (List (Int × Int × Int × Int × Int × Unit) × Int × Int × Int × Unit)) (b : List (Int × Int × Int × Int × Int × Unit) × Int × Int × Int × Unit) (t55 : Int) : Option (Int × Unit) :=
  bif decide (t55 < (↑(List.length (p2.getD t48.toNat ([], 0, 0, 0, ())).fst) : Int)) then
    bif inb t55 (List.length (p2.getD t48.toNat ([], 0, 0, 0, ())).fst) then
      Option.bind (block_step_f nf vars (List.getD (p2.getD t48.toNat ([], 0, 0, 0, ())).fst t55.toNat (0, 0, 0, 0, 0, ()))) fun r =>
      bif r.fst != 0 then
        some ((r.fst, ()))
      else
        g4 p4 b (IntKind.i64.wrap (t55 + 1))
    else
      none
  else
    bif decide (b.snd.fst < (-1)) then
      some ((2, ()))
    else
      bif decide (b.snd.fst ≥ vars) then
        some ((2, ()))
      else
        Option.bind (block_Check_1_f nf b.snd.snd.fst p4) fun r2 =>
        bif !r2.fst then
          bif b.snd.snd.fst != (-1) then
            some ((3, ()))
          else
            bif decide (b.snd.fst ≥ 0) then
              some ((3, ()))
            else
              bif decide (b.snd.fst ≥ 0) then
                Option.bind (block_Check_1_f nf b.snd.snd.snd.fst p4) fun r3 =>
                bif !r3.fst then
                  some ((3, ()))
                else
                  g2 p4 (IntKind.i64.wrap (t48 + 1))
              else
                g2 p4 (IntKind.i64.wrap (t48 + 1))
        else
          bif decide (b.snd.fst ≥ 0) then
            Option.bind (block_Check_1_f nf b.snd.snd.snd.fst p4) fun r4 =>
            bif !r4.fst then
              some ((3, ()))
            else
              g2 p4 (IntKind.i64.wrap (t48 + 1))
          else
            g2 p4 (IntKind.i64.wrap (t48 + 1))
def block_Check_p (nf : Nat) (l0 : Int → List (List (Int × Int × Int × Int × Int × Unit) × Int × Int × Int × Unit) → List (List (Int × Int × Int × Int × Int × Unit) × Int × Int × Int × Unit) → Int → Int → Option (Int × Unit)) (vars : Int) (p : List (List (Int × Int × Int × Int × Int × Unit) × Int × Int × Int × Unit)) : Option (Int × Unit) :=
  l0 vars p p 0 0
def block_Check_l4 (nf : Nat) (vars : Int) (p : List (List (Int × Int × Int × Int × Int × Unit) × Int × Int × Int × Unit)) (p2 : List (List (Int × Int × Int × Int × Int × Unit) × Int × Int × Int × Unit)) (t48 : Int) (g2 : List (List (Int × Int × Int × Int × Int × Unit) × Int × Int × Int × Unit) → Int → Option (Int × Unit)) : Nat → List (List (Int × Int × Int × Int × Int × Unit) × Int × Int × Int × Unit) → List (Int × Int × Int × Int × Int × Unit) × Int × Int × Int × Unit → Int → Option (Int × Unit)
  | 0, _, _, _ => none
  | fu + 1, p4, b, t55 => block_Check_b4 nf  vars p p2 t48 g2 (block_Check_l4 nf vars p p2 t48 g2 fu) p4 b t55
def block_Check_l2 (nf : Nat) (vars : Int) (p : List (List (Int × Int × Int × Int × Int × Unit) × Int × Int × Int × Unit)) (p2 : List (List (Int × Int × Int × Int × Int × Unit) × Int × Int × Int × Unit)) : Nat → List (List (Int × Int × Int × Int × Int × Unit) × Int × Int × Int × Unit) → Int → Option (Int × Unit)
  | 0, _, _ => none
  | fu + 1, p3, t48 => block_Check_b2 nf (fun _ _ _ p3 v0 v1 v2 => block_Check_l4 nf vars p p2 p3 (fun p3 t48 => block_Check_l2 nf vars p p2  fu p3 t48) nf v0 v1 v2) vars p p2  (block_Check_l2 nf vars p p2  fu) p3 t48
def block_Check_l0 (nf : Nat) (vars : Int) (p : List (List (Int × Int × Int × Int × Int × Unit) × Int × Int × Int × Unit)) : Nat → List (List (Int × Int × Int × Int × Int × Unit) × Int × Int × Int × Unit) → Int → Int → Option (Int × Unit)
  | 0, _, _, _ => none
  | fu + 1, p2, many, t16 => block_Check_b0 nf (fun _ _ p2 v0 v1 => block_Check_l2 nf vars p p2  nf v0 v1) vars p  (block_Check_l0 nf vars p  fu) p2 many t16
def block_Check_f (nf : Nat) (vars : Int) (p : List (List (Int × Int × Int × Int × Int × Unit) × Int × Int × Int × Unit)) : Option (Int × Unit) := block_Check_p nf (fun p0 p1 v0 v1 v2 => block_Check_l0 nf p0 p1 nf v0 v1 v2) vars p
noncomputable def block_Check_L0 (nf : Nat) : LC (Int × Unit) := theL (findL tab (block_Check_phi nf) (fun _ F => iter nf F) block_Check_keep 0 0 (codeOf Try.f95) (fin tab [(Ty.int IntKind.i64, Md.bor false true)] (resL ([]) Try.f95)) (fun _ _ => none) (fin tab [(Ty.int IntKind.i64, Md.bor false true)] (resL ([]) Try.f95)))
def block_Check_m0 (vars : Int) (p : List (List (Int × Int × Int × Int × Int × Unit) × Int × Int × Int × Unit)) (p2 : List (List (Int × Int × Int × Int × Int × Unit) × Int × Int × Int × Unit)) (many : Int) (t16 : Int) : St := ⟨fresh, [(0, AV.v (Ty.int IntKind.i64) (Md.bor false true) vars), (1, AV.v (((Ty.int IntKind.i64).pair ((Ty.int IntKind.i64).pair ((Ty.int IntKind.i64).pair ((Ty.int IntKind.i64).pair ((Ty.int IntKind.i64).pair Ty.unit))))).sl.pair ((Ty.int IntKind.i64).pair ((Ty.int IntKind.i64).pair ((Ty.int IntKind.i64).pair Ty.unit)))).sl (Md.bor true false) p), (3, AV.box 3 500003 (((Ty.int IntKind.i64).pair ((Ty.int IntKind.i64).pair ((Ty.int IntKind.i64).pair ((Ty.int IntKind.i64).pair ((Ty.int IntKind.i64).pair Ty.unit))))).sl.pair ((Ty.int IntKind.i64).pair ((Ty.int IntKind.i64).pair ((Ty.int IntKind.i64).pair Ty.unit)))).sl (Md.bor true false) p2), (5, AV.v (Ty.int IntKind.i64) (Md.bor false true) many), (14, AV.v (((Ty.int IntKind.i64).pair ((Ty.int IntKind.i64).pair ((Ty.int IntKind.i64).pair ((Ty.int IntKind.i64).pair ((Ty.int IntKind.i64).pair Ty.unit))))).sl.pair ((Ty.int IntKind.i64).pair ((Ty.int IntKind.i64).pair ((Ty.int IntKind.i64).pair Ty.unit)))).sl (Md.bor true false) p), (15, AV.v (Ty.int IntKind.i64) (Md.bor false true) (↑p.length : Int)), (16, AV.v (Ty.int IntKind.i64) (Md.bor false true) t16)]⟩
noncomputable def block_Check_L2 (nf : Nat) : LC (Int × Unit) := theL (findL tab (block_Check_phi nf) (fun _ F => iter nf F) block_Check_keep 2 0 (codeOf Try.f95) (fin tab [(Ty.int IntKind.i64, Md.bor false true)] (resL ([]) Try.f95)) (fun _ _ => none) (fin tab [(Ty.int IntKind.i64, Md.bor false true)] (resL ([]) Try.f95)))
def block_Check_m2 (vars : Int) (p : List (List (Int × Int × Int × Int × Int × Unit) × Int × Int × Int × Unit)) (p2 : List (List (Int × Int × Int × Int × Int × Unit) × Int × Int × Int × Unit)) (p3 : List (List (Int × Int × Int × Int × Int × Unit) × Int × Int × Int × Unit)) (t48 : Int) : St := ⟨fresh, [(0, AV.v (Ty.int IntKind.i64) (Md.bor false true) vars), (1, AV.v (((Ty.int IntKind.i64).pair ((Ty.int IntKind.i64).pair ((Ty.int IntKind.i64).pair ((Ty.int IntKind.i64).pair ((Ty.int IntKind.i64).pair Ty.unit))))).sl.pair ((Ty.int IntKind.i64).pair ((Ty.int IntKind.i64).pair ((Ty.int IntKind.i64).pair Ty.unit)))).sl (Md.bor true false) p), (3, AV.box 3 500003 (((Ty.int IntKind.i64).pair ((Ty.int IntKind.i64).pair ((Ty.int IntKind.i64).pair ((Ty.int IntKind.i64).pair ((Ty.int IntKind.i64).pair Ty.unit))))).sl.pair ((Ty.int IntKind.i64).pair ((Ty.int IntKind.i64).pair ((Ty.int IntKind.i64).pair Ty.unit)))).sl (Md.bor true false) p3), (46, AV.v (((Ty.int IntKind.i64).pair ((Ty.int IntKind.i64).pair ((Ty.int IntKind.i64).pair ((Ty.int IntKind.i64).pair ((Ty.int IntKind.i64).pair Ty.unit))))).sl.pair ((Ty.int IntKind.i64).pair ((Ty.int IntKind.i64).pair ((Ty.int IntKind.i64).pair Ty.unit)))).sl (Md.bor true false) p2), (47, AV.v (Ty.int IntKind.i64) (Md.bor false true) (↑p2.length : Int)), (48, AV.v (Ty.int IntKind.i64) (Md.bor false true) t48)]⟩
noncomputable def block_Check_L4 (nf : Nat) (G2 : St → Option (Int × Unit)) : LC (Int × Unit) := theL (findL tab (block_Check_phi nf) (fun _ F => iter nf F) block_Check_keep 4 2 (block_Check_L2 nf ).c (fun st => norm (block_Check_keep 2) st G2) (block_Check_L2 nf ).Kx (block_Check_L2 nf ).Kr)
def block_Check_m4 (vars : Int) (p : List (List (Int × Int × Int × Int × Int × Unit) × Int × Int × Int × Unit)) (p2 : List (List (Int × Int × Int × Int × Int × Unit) × Int × Int × Int × Unit)) (t48 : Int) (p4 : List (List (Int × Int × Int × Int × Int × Unit) × Int × Int × Int × Unit)) (b : List (Int × Int × Int × Int × Int × Unit) × Int × Int × Int × Unit) (t55 : Int) : St := ⟨fresh, [(0, AV.v (Ty.int IntKind.i64) (Md.bor false true) vars), (1, AV.v (((Ty.int IntKind.i64).pair ((Ty.int IntKind.i64).pair ((Ty.int IntKind.i64).pair ((Ty.int IntKind.i64).pair ((Ty.int IntKind.i64).pair Ty.unit))))).sl.pair ((Ty.int IntKind.i64).pair ((Ty.int IntKind.i64).pair ((Ty.int IntKind.i64).pair Ty.unit)))).sl (Md.bor true false) p), (3, AV.box 3 500003 (((Ty.int IntKind.i64).pair ((Ty.int IntKind.i64).pair ((Ty.int IntKind.i64).pair ((Ty.int IntKind.i64).pair ((Ty.int IntKind.i64).pair Ty.unit))))).sl.pair ((Ty.int IntKind.i64).pair ((Ty.int IntKind.i64).pair ((Ty.int IntKind.i64).pair Ty.unit)))).sl (Md.bor true false) p4), (9, AV.box 9 500009 (((Ty.int IntKind.i64).pair ((Ty.int IntKind.i64).pair ((Ty.int IntKind.i64).pair ((Ty.int IntKind.i64).pair ((Ty.int IntKind.i64).pair Ty.unit))))).sl.pair ((Ty.int IntKind.i64).pair ((Ty.int IntKind.i64).pair ((Ty.int IntKind.i64).pair Ty.unit)))) (Md.bor true false) b), (46, AV.v (((Ty.int IntKind.i64).pair ((Ty.int IntKind.i64).pair ((Ty.int IntKind.i64).pair ((Ty.int IntKind.i64).pair ((Ty.int IntKind.i64).pair Ty.unit))))).sl.pair ((Ty.int IntKind.i64).pair ((Ty.int IntKind.i64).pair ((Ty.int IntKind.i64).pair Ty.unit)))).sl (Md.bor true false) p2), (47, AV.v (Ty.int IntKind.i64) (Md.bor false true) (↑p2.length : Int)), (48, AV.v (Ty.int IntKind.i64) (Md.bor false true) t48), (52, AV.pl 9 9 [Stp.dr, Stp.fld 0]), (53, AV.v ((Ty.int IntKind.i64).pair ((Ty.int IntKind.i64).pair ((Ty.int IntKind.i64).pair ((Ty.int IntKind.i64).pair ((Ty.int IntKind.i64).pair Ty.unit))))).sl (Md.bor true false) (p2.getD t48.toNat ([], 0, 0, 0, ())).fst), (54, AV.v (Ty.int IntKind.i64) (Md.bor false true) (↑(List.length (p2.getD t48.toNat ([], 0, 0, 0, ())).fst) : Int)), (55, AV.v (Ty.int IntKind.i64) (Md.bor false true) t55)]⟩
theorem block_Check_h4 (nf : Nat) (G2 : St → Option (Int × Unit)) (vars : Int) (p : List (List (Int × Int × Int × Int × Int × Unit) × Int × Int × Int × Unit)) (p2 : List (List (Int × Int × Int × Int × Int × Unit) × Int × Int × Int × Unit)) (t48 : Int) (fu : Nat) (p4 : List (List (Int × Int × Int × Int × Int × Unit) × Int × Int × Int × Unit)) (b : List (Int × Int × Int × Int × Int × Unit) × Int × Int × Int × Unit) (t55 : Int) : iter (fu + 1) (LC.F tab (block_Check_phi nf) (fun _ F => iter nf F) block_Check_keep 4 (block_Check_L4 nf G2)) (block_Check_m4 vars p p2 t48 p4 b t55) = block_Check_b4 nf  vars p p2 t48 (fun p3 t48 => G2 (block_Check_m2 vars p p2 p3 t48)) (fun p4 b t55 => iter fu (LC.F tab (block_Check_phi nf) (fun _ F => iter nf F) block_Check_keep 4 (block_Check_L4 nf G2)) (block_Check_m4 vars p p2 t48 p4 b t55)) p4 b t55 := by kernel_rfl
theorem block_Check_e4 (nf : Nat) (G2 : St → Option (Int × Unit)) (vars : Int) (p : List (List (Int × Int × Int × Int × Int × Unit) × Int × Int × Int × Unit)) (p2 : List (List (Int × Int × Int × Int × Int × Unit) × Int × Int × Int × Unit)) (t48 : Int) : ∀ (fu : Nat) (p4 : List (List (Int × Int × Int × Int × Int × Unit) × Int × Int × Int × Unit)) (b : List (Int × Int × Int × Int × Int × Unit) × Int × Int × Int × Unit) (t55 : Int), iter fu (LC.F tab (block_Check_phi nf) (fun _ F => iter nf F) block_Check_keep 4 (block_Check_L4 nf G2)) (block_Check_m4 vars p p2 t48 p4 b t55) = block_Check_l4 nf vars p p2 t48 (fun p3 t48 => G2 (block_Check_m2 vars p p2 p3 t48)) fu p4 b t55 := by
  intro fu
  induction fu with
  | zero => intros; rfl
  | succ fu ih =>
    intro p4 b t55
    rw [block_Check_h4 nf G2 vars p p2 t48 fu p4 b t55]
    simp only [ih]
    rfl
theorem block_Check_h2 (nf : Nat)  (vars : Int) (p : List (List (Int × Int × Int × Int × Int × Unit) × Int × Int × Int × Unit)) (p2 : List (List (Int × Int × Int × Int × Int × Unit) × Int × Int × Int × Unit)) (fu : Nat) (p3 : List (List (Int × Int × Int × Int × Int × Unit) × Int × Int × Int × Unit)) (t48 : Int) : iter (fu + 1) (LC.F tab (block_Check_phi nf) (fun _ F => iter nf F) block_Check_keep 2 (block_Check_L2 nf )) (block_Check_m2 vars p p2 p3 t48) = block_Check_b2 nf (fun _ _ _ p3 v0 v1 v2 => iter nf (LC.F tab (block_Check_phi nf) (fun _ F => iter nf F) block_Check_keep 4 (block_Check_L4 nf (iter fu (LC.F tab (block_Check_phi nf) (fun _ F => iter nf F) block_Check_keep 2 (block_Check_L2 nf ))))) (block_Check_m4 vars p p2 p3 v0 v1 v2)) vars p p2  (fun p3 t48 => iter fu (LC.F tab (block_Check_phi nf) (fun _ F => iter nf F) block_Check_keep 2 (block_Check_L2 nf )) (block_Check_m2 vars p p2 p3 t48)) p3 t48 := by kernel_rfl
theorem block_Check_e2 (nf : Nat)  (vars : Int) (p : List (List (Int × Int × Int × Int × Int × Unit) × Int × Int × Int × Unit)) (p2 : List (List (Int × Int × Int × Int × Int × Unit) × Int × Int × Int × Unit)) : ∀ (fu : Nat) (p3 : List (List (Int × Int × Int × Int × Int × Unit) × Int × Int × Int × Unit)) (t48 : Int), iter fu (LC.F tab (block_Check_phi nf) (fun _ F => iter nf F) block_Check_keep 2 (block_Check_L2 nf )) (block_Check_m2 vars p p2 p3 t48) = block_Check_l2 nf vars p p2  fu p3 t48 := by
  intro fu
  induction fu with
  | zero => intros; rfl
  | succ fu ih =>
    intro p3 t48
    rw [block_Check_h2 nf  vars p p2 fu p3 t48]
    simp only [ih, block_Check_e4]
    rfl
theorem block_Check_h0 (nf : Nat)  (vars : Int) (p : List (List (Int × Int × Int × Int × Int × Unit) × Int × Int × Int × Unit)) (fu : Nat) (p2 : List (List (Int × Int × Int × Int × Int × Unit) × Int × Int × Int × Unit)) (many : Int) (t16 : Int) : iter (fu + 1) (LC.F tab (block_Check_phi nf) (fun _ F => iter nf F) block_Check_keep 0 (block_Check_L0 nf )) (block_Check_m0 vars p p2 many t16) = block_Check_b0 nf (fun _ _ p2 v0 v1 => iter nf (LC.F tab (block_Check_phi nf) (fun _ F => iter nf F) block_Check_keep 2 (block_Check_L2 nf )) (block_Check_m2 vars p p2 v0 v1)) vars p  (fun p2 many t16 => iter fu (LC.F tab (block_Check_phi nf) (fun _ F => iter nf F) block_Check_keep 0 (block_Check_L0 nf )) (block_Check_m0 vars p p2 many t16)) p2 many t16 := by kernel_rfl
theorem block_Check_e0 (nf : Nat)  (vars : Int) (p : List (List (Int × Int × Int × Int × Int × Unit) × Int × Int × Int × Unit)) : ∀ (fu : Nat) (p2 : List (List (Int × Int × Int × Int × Int × Unit) × Int × Int × Int × Unit)) (many : Int) (t16 : Int), iter fu (LC.F tab (block_Check_phi nf) (fun _ F => iter nf F) block_Check_keep 0 (block_Check_L0 nf )) (block_Check_m0 vars p p2 many t16) = block_Check_l0 nf vars p  fu p2 many t16 := by
  intro fu
  induction fu with
  | zero => intros; rfl
  | succ fu ih =>
    intro p2 many t16
    rw [block_Check_h0 nf  vars p fu p2 many t16]
    simp only [ih, block_Check_e2]
    rfl
theorem block_Check_eq (nf : Nat) (vars : Int) (p : List (List (Int × Int × Int × Int × Int × Unit) × Int × Int × Int × Unit)) : runF tab (block_Check_phi nf) block_Check_keep nf [PT.val (Ty.int IntKind.i64) (Md.bor true false), PT.val (((Ty.int IntKind.i64).pair ((Ty.int IntKind.i64).pair ((Ty.int IntKind.i64).pair ((Ty.int IntKind.i64).pair ((Ty.int IntKind.i64).pair Ty.unit))))).sl.pair ((Ty.int IntKind.i64).pair ((Ty.int IntKind.i64).pair ((Ty.int IntKind.i64).pair Ty.unit)))).sl (Md.bor true false)] [(Ty.int IntKind.i64, Md.bor false true)] (resL ([]) Try.f95) (codeOf Try.f95) ⟨vars, p, ()⟩ = block_Check_f nf vars p := by
  have h : runF tab (block_Check_phi nf) block_Check_keep nf [PT.val (Ty.int IntKind.i64) (Md.bor true false), PT.val (((Ty.int IntKind.i64).pair ((Ty.int IntKind.i64).pair ((Ty.int IntKind.i64).pair ((Ty.int IntKind.i64).pair ((Ty.int IntKind.i64).pair Ty.unit))))).sl.pair ((Ty.int IntKind.i64).pair ((Ty.int IntKind.i64).pair ((Ty.int IntKind.i64).pair Ty.unit)))).sl (Md.bor true false)] [(Ty.int IntKind.i64, Md.bor false true)] (resL ([]) Try.f95) (codeOf Try.f95) ⟨vars, p, ()⟩ = block_Check_p nf (fun p0 p1 v0 v1 v2 => iter nf (LC.F tab (block_Check_phi nf) (fun _ F => iter nf F) block_Check_keep 0 (block_Check_L0 nf)) (block_Check_m0 p0 p1 v0 v1 v2)) vars p := by kernel_rfl
  rw [h]
  simp only [block_Check_e0]
  rfl
def block_Check_F (nf : Nat) (x : denPs [.val (.int .i64) (.bor true false), .val (.sl (.pair (.sl (.pair (.int .i64) (.pair (.int .i64) (.pair (.int .i64) (.pair (.int .i64) (.pair (.int .i64) (.unit))))))) (.pair (.int .i64) (.pair (.int .i64) (.pair (.int .i64) (.unit)))))) (.bor true false)]) : Option (denL [(.int .i64, .bor false true)]) := block_Check_f nf x.1 x.2.1
def block_Check_C (nf : Nat) : Contract := ⟨[.val (.int .i64) (.bor true false), .val (.sl (.pair (.sl (.pair (.int .i64) (.pair (.int .i64) (.pair (.int .i64) (.pair (.int .i64) (.pair (.int .i64) (.unit))))))) (.pair (.int .i64) (.pair (.int .i64) (.pair (.int .i64) (.unit)))))) (.bor true false)], [(.int .i64, .bor false true)], block_Check_F nf, []⟩
theorem block_Check_ok : FnOK Try.prog 95 := ⟨Try.f95, codeOf Try.f95, Try.func95, by kernel_rfl, by kernel_rfl⟩
theorem block_Check_holds (nf : Nat) : Contract.Holds Try.prog 95 (block_Check_C nf) :=
  fn_holds (Φ := block_Check_phi nf) (keep := block_Check_keep) (n := nf) ⟨tabs.1, tabs.2, (ctx_cons block_step_ok (block_step_holds nf) (ctx_cons block_Check_1_ok (block_Check_1_holds nf) ctx_nil)), mixed, bk_ok bkls rfl⟩ (fn := Try.f95) ⟨Try.func95, by kernel_rfl, by kernel_rfl, by kernel_rfl⟩ (fun x => block_Check_eq nf x.1 x.2.1)

/-! codemason weak.wrong -/
def weak_wrong_tab : Tab := ⟨lookT [(2, .int .i64), (3, .int .i64), (4, .bool), (5, .int .u8), (6, .int .u8), (7, .pair (.int .i64) (.pair (.int .i64) (.pair (.bool) (.pair (.int .u8) (.unit))))), (8, .pair (.int .i64) (.pair (.int .i64) (.pair (.bool) (.pair (.int .u8) (.unit))))), (12, .int .u64), (21, .int .i32), (22, .sl (.pair (.int .i64) (.pair (.int .i64) (.pair (.int .i64) (.pair (.int .i64) (.unit)))))), (23, .int .i64), (26, .int .u32), (29, .sl (.int .i64)), (31, .pair (.int .i64) (.pair (.int .i64) (.pair (.int .i64) (.pair (.int .i64) (.unit))))), (32, .pair (.int .i64) (.pair (.int .i64) (.pair (.int .i64) (.pair (.int .i64) (.unit))))), (33, .int .u64), (44, .sl (.pair (.int .i64) (.pair (.int .i64) (.pair (.int .i64) (.pair (.int .i64) (.pair (.int .i64) (.unit))))))), (55, .sl (.pair (.int .i64) (.pair (.int .i64) (.unit)))), (65, .pair (.int .i64) (.pair (.int .i64) (.unit))), (66, .pair (.int .i64) (.pair (.int .i64) (.unit))), (86, .sl (.pair (.int .i64) (.pair (.int .i64) (.pair (.int .i64) (.pair (.int .i64) (.unit)))))), (94, .pair (.int .i64) (.pair (.int .i64) (.pair (.int .i64) (.pair (.int .i64) (.unit))))), (95, .pair (.int .i64) (.pair (.int .i64) (.pair (.int .i64) (.pair (.int .i64) (.unit))))), (96, .sl (.bool)), (101, .pair (.int .i64) (.pair (.int .i64) (.pair (.int .i64) (.pair (.int .i64) (.pair (.int .i64) (.unit)))))), (102, .pair (.int .i64) (.pair (.int .i64) (.pair (.int .i64) (.pair (.int .i64) (.pair (.int .i64) (.unit)))))), (104, .pair (.sl (.pair (.int .i64) (.pair (.int .i64) (.pair (.int .i64) (.pair (.int .i64) (.unit)))))) (.pair (.sl (.int .i64)) (.pair (.sl (.pair (.int .i64) (.pair (.int .i64) (.pair (.int .i64) (.pair (.int .i64) (.pair (.int .i64) (.unit))))))) (.unit)))), (105, .pair (.sl (.pair (.int .i64) (.pair (.int .i64) (.pair (.int .i64) (.pair (.int .i64) (.unit)))))) (.pair (.sl (.int .i64)) (.pair (.sl (.pair (.int .i64) (.pair (.int .i64) (.pair (.int .i64) (.pair (.int .i64) (.pair (.int .i64) (.unit))))))) (.unit)))), (114, .mp (.pair (.int .i64) (.pair (.int .i64) (.pair (.int .i64) (.pair (.int .i64) (.unit))))) (.int .i64)), (115, .pair (.sl (.pair (.int .i64) (.pair (.int .i64) (.pair (.int .i64) (.pair (.int .i64) (.unit)))))) (.pair (.mp (.pair (.int .i64) (.pair (.int .i64) (.pair (.int .i64) (.pair (.int .i64) (.unit))))) (.int .i64)) (.unit))), (116, .pair (.sl (.pair (.int .i64) (.pair (.int .i64) (.pair (.int .i64) (.pair (.int .i64) (.unit)))))) (.pair (.mp (.pair (.int .i64) (.pair (.int .i64) (.pair (.int .i64) (.pair (.int .i64) (.unit))))) (.int .i64)) (.unit))), (119, .pair (.sl (.pair (.int .i64) (.pair (.int .i64) (.pair (.int .i64) (.pair (.int .i64) (.pair (.int .i64) (.unit))))))) (.pair (.int .i64) (.pair (.int .i64) (.pair (.int .i64) (.unit))))), (120, .pair (.sl (.pair (.int .i64) (.pair (.int .i64) (.pair (.int .i64) (.pair (.int .i64) (.pair (.int .i64) (.unit))))))) (.pair (.int .i64) (.pair (.int .i64) (.pair (.int .i64) (.unit))))), (121, .sl (.pair (.sl (.pair (.int .i64) (.pair (.int .i64) (.pair (.int .i64) (.pair (.int .i64) (.pair (.int .i64) (.unit))))))) (.pair (.int .i64) (.pair (.int .i64) (.pair (.int .i64) (.unit)))))), (142, .int .u8), (143, .int .u8), (146, .int .i32), (147, .int .i32)], lookM [(2, .bor false true), (3, .bor false true), (4, .bor false true), (5, .bor false true), (6, .bor false true), (7, .bor false true), (8, .bor false true), (12, .bor false true), (21, .bor false true), (22, .own false (.bor false false)), (23, .bor false true), (26, .bor false true), (29, .own false (.bor false false)), (31, .bor false true), (32, .bor false true), (33, .bor false true), (44, .own false (.bor false false)), (55, .own false (.bor false false)), (65, .bor false true), (66, .bor false true), (86, .own false (.bor false false)), (94, .bor false true), (95, .bor false true), (96, .own false (.bor false false)), (101, .bor false true), (102, .bor false true), (104, .bor true false), (105, .pair (.bor false false) (.pair (.bor false false) (.pair (.own false (.bor false false)) (.bor false false)))), (114, .own false (.bor false false)), (115, .bor true false), (116, .pair (.own false (.bor false false)) (.pair (.own true (.bor false false)) (.bor false false))), (119, .bor true false), (120, .bor true false), (121, .own false (.pair (.bor true false) (.bor false true))), (142, .bor false true), (143, .bor false true), (146, .bor false true), (147, .bor false true)], hasT [138], hasT [9, 10, 11], fun _ => none, lookB bkl⟩
theorem weak_wrong_tabs : TabOK Try.prog weak_wrong_tab ∧ EqOK Try.prog weak_wrong_tab := tab_ok (by kernel_rfl) (by kernel_rfl)
def weak_wrong_phi (nf : Nat) : Nat → Option Contract := lookC [(95, block_Check_C nf)]
def weak_wrong_keep : Nat → List Nat := lookK []
def weak_wrong_p (nf : Nat)  (vars : Int) (code' : List (Int × Int × Int × Int × Int × Unit)) : Option (Int × Unit) :=
  Option.bind (block_Check_f nf vars ([(code', (-1), (-1), 0, ())])) fun r =>
  some ((r.fst, ()))
def weak_wrong_f (nf : Nat) (vars : Int) (code' : List (Int × Int × Int × Int × Int × Unit)) : Option (Int × Unit) := weak_wrong_p nf  vars code'
theorem weak_wrong_eq (nf : Nat) (vars : Int) (code' : List (Int × Int × Int × Int × Int × Unit)) : runF weak_wrong_tab (weak_wrong_phi nf) weak_wrong_keep nf [PT.val (Ty.int IntKind.i64) (Md.bor true false), PT.val ((Ty.int IntKind.i64).pair ((Ty.int IntKind.i64).pair ((Ty.int IntKind.i64).pair ((Ty.int IntKind.i64).pair ((Ty.int IntKind.i64).pair Ty.unit))))).sl (Md.bor true false)] [(Ty.int IntKind.i64, Md.bor false true)] (resL ([]) Try.f81) (codeOf Try.f81) ⟨vars, code', ()⟩ = weak_wrong_f nf vars code' := by
  have h : runF weak_wrong_tab (weak_wrong_phi nf) weak_wrong_keep nf [PT.val (Ty.int IntKind.i64) (Md.bor true false), PT.val ((Ty.int IntKind.i64).pair ((Ty.int IntKind.i64).pair ((Ty.int IntKind.i64).pair ((Ty.int IntKind.i64).pair ((Ty.int IntKind.i64).pair Ty.unit))))).sl (Md.bor true false)] [(Ty.int IntKind.i64, Md.bor false true)] (resL ([]) Try.f81) (codeOf Try.f81) ⟨vars, code', ()⟩ = weak_wrong_p nf  vars code' := by kernel_rfl
  exact h
def weak_wrong_F (nf : Nat) (x : denPs [.val (.int .i64) (.bor true false), .val (.sl (.pair (.int .i64) (.pair (.int .i64) (.pair (.int .i64) (.pair (.int .i64) (.pair (.int .i64) (.unit))))))) (.bor true false)]) : Option (denL [(.int .i64, .bor false true)]) := weak_wrong_f nf x.1 x.2.1
def weak_wrong_C (nf : Nat) : Contract := ⟨[.val (.int .i64) (.bor true false), .val (.sl (.pair (.int .i64) (.pair (.int .i64) (.pair (.int .i64) (.pair (.int .i64) (.pair (.int .i64) (.unit))))))) (.bor true false)], [(.int .i64, .bor false true)], weak_wrong_F nf, []⟩
theorem weak_wrong_ok : FnOK Try.prog 81 := ⟨Try.f81, codeOf Try.f81, Try.func81, by kernel_rfl, by kernel_rfl⟩
theorem weak_wrong_holds (nf : Nat) : Contract.Holds Try.prog 81 (weak_wrong_C nf) :=
  fn_holds (Φ := weak_wrong_phi nf) (keep := weak_wrong_keep) (n := nf) ⟨weak_wrong_tabs.1, weak_wrong_tabs.2, (ctx_cons block_Check_ok (block_Check_holds nf) ctx_nil), mixed, bk_ok bkls rfl⟩ (fn := Try.f81) ⟨Try.func81, by kernel_rfl, by kernel_rfl, by kernel_rfl⟩ (fun x => weak_wrong_eq nf x.1 x.2.1)

/-!   codemason weak.terms .put -/
def weak_terms_put_phi (nf : Nat) : Nat → Option Contract := lookC []
def weak_terms_put_keep : Nat → List Nat := lookK []
def weak_terms_put_p (nf : Nat)  (t : List (Int × Int × Int × Int × Unit) × List ((Int × Int × Int × Int × Unit) × Int) × Unit) (x : Int × Int × Int × Int × Unit) : Option (Option (List (Int × Int × Int × Int × Unit) × List ((Int × Int × Int × Int × Unit) × Int) × Unit) × Int × Unit) :=
  both (both (bif !(getM ((Ty.int IntKind.i64).pair ((Ty.int IntKind.i64).pair ((Ty.int IntKind.i64).pair ((Ty.int IntKind.i64).pair Ty.unit)))) (Ty.int IntKind.i64) t.snd.fst x).isSome then
    bif ![x].isEmpty && (List.length t.fst + [x].length).ble lim then
      some ((some (t.fst ++ [x], insM ((Ty.int IntKind.i64).pair ((Ty.int IntKind.i64).pair ((Ty.int IntKind.i64).pair ((Ty.int IntKind.i64).pair Ty.unit)))) (Ty.int IntKind.i64) t.snd.fst x (↑(List.length t.fst) : Int), t.snd.snd), (↑(List.length t.fst) : Int), ()))
    else
      none
  else
    some ((some t, (getM ((Ty.int IntKind.i64).pair ((Ty.int IntKind.i64).pair ((Ty.int IntKind.i64).pair ((Ty.int IntKind.i64).pair Ty.unit)))) (Ty.int IntKind.i64) t.snd.fst x).getD 0, ()))) (bif !(getM ((Ty.int IntKind.i64).pair ((Ty.int IntKind.i64).pair ((Ty.int IntKind.i64).pair ((Ty.int IntKind.i64).pair Ty.unit)))) (Ty.int IntKind.i64) t.snd.fst x).isSome then
    bif ![x].isEmpty && (List.length t.fst + [x].length).ble lim then
      some ((some (t.fst ++ [x], insM ((Ty.int IntKind.i64).pair ((Ty.int IntKind.i64).pair ((Ty.int IntKind.i64).pair ((Ty.int IntKind.i64).pair Ty.unit)))) (Ty.int IntKind.i64) t.snd.fst x (↑(List.length t.fst) : Int), t.snd.snd), (↑(List.length t.fst) : Int), ()))
    else
      none
  else
    some ((some t, (getM ((Ty.int IntKind.i64).pair ((Ty.int IntKind.i64).pair ((Ty.int IntKind.i64).pair ((Ty.int IntKind.i64).pair Ty.unit)))) (Ty.int IntKind.i64) t.snd.fst x).getD 0, ())))) (bif !(getM ((Ty.int IntKind.i64).pair ((Ty.int IntKind.i64).pair ((Ty.int IntKind.i64).pair ((Ty.int IntKind.i64).pair Ty.unit)))) (Ty.int IntKind.i64) t.snd.fst x).isSome then
    bif ![x].isEmpty && (List.length t.fst + [x].length).ble lim then
      some ((some (t.fst ++ [x], insM ((Ty.int IntKind.i64).pair ((Ty.int IntKind.i64).pair ((Ty.int IntKind.i64).pair ((Ty.int IntKind.i64).pair Ty.unit)))) (Ty.int IntKind.i64) t.snd.fst x (↑(List.length t.fst) : Int), t.snd.snd), (↑(List.length t.fst) : Int), ()))
    else
      none
  else
    some ((some t, (getM ((Ty.int IntKind.i64).pair ((Ty.int IntKind.i64).pair ((Ty.int IntKind.i64).pair ((Ty.int IntKind.i64).pair Ty.unit)))) (Ty.int IntKind.i64) t.snd.fst x).getD 0, ())))
def weak_terms_put_f (nf : Nat) (t : List (Int × Int × Int × Int × Unit) × List ((Int × Int × Int × Int × Unit) × Int) × Unit) (x : Int × Int × Int × Int × Unit) : Option (Option (List (Int × Int × Int × Int × Unit) × List ((Int × Int × Int × Int × Unit) × Int) × Unit) × Int × Unit) := weak_terms_put_p nf  t x
theorem weak_terms_put_eq (nf : Nat) (t : List (Int × Int × Int × Int × Unit) × List ((Int × Int × Int × Int × Unit) × Int) × Unit) (x : Int × Int × Int × Int × Unit) : runF tab (weak_terms_put_phi nf) weak_terms_put_keep nf [PT.box (((Ty.int IntKind.i64).pair ((Ty.int IntKind.i64).pair ((Ty.int IntKind.i64).pair ((Ty.int IntKind.i64).pair Ty.unit)))).sl.pair ((((Ty.int IntKind.i64).pair ((Ty.int IntKind.i64).pair ((Ty.int IntKind.i64).pair ((Ty.int IntKind.i64).pair Ty.unit)))).mp (Ty.int IntKind.i64)).pair Ty.unit)) ((Md.own false (Md.bor false false)).pair ((Md.own true (Md.bor false false)).pair (Md.bor false false))), PT.val ((Ty.int IntKind.i64).pair ((Ty.int IntKind.i64).pair ((Ty.int IntKind.i64).pair ((Ty.int IntKind.i64).pair Ty.unit)))) (Md.bor true false)] [((((Ty.int IntKind.i64).pair ((Ty.int IntKind.i64).pair ((Ty.int IntKind.i64).pair ((Ty.int IntKind.i64).pair Ty.unit)))).sl.pair ((((Ty.int IntKind.i64).pair ((Ty.int IntKind.i64).pair ((Ty.int IntKind.i64).pair ((Ty.int IntKind.i64).pair Ty.unit)))).mp (Ty.int IntKind.i64)).pair Ty.unit)).bx, Md.own false ((Md.own false (Md.bor false false)).pair ((Md.own true (Md.bor false false)).pair (Md.bor false false)))), (Ty.int IntKind.i64, Md.bor false true)] (resL ([0]) Try.f82) (codeOf Try.f82) ⟨t, x, ()⟩ = weak_terms_put_f nf t x := by
  have h : runF tab (weak_terms_put_phi nf) weak_terms_put_keep nf [PT.box (((Ty.int IntKind.i64).pair ((Ty.int IntKind.i64).pair ((Ty.int IntKind.i64).pair ((Ty.int IntKind.i64).pair Ty.unit)))).sl.pair ((((Ty.int IntKind.i64).pair ((Ty.int IntKind.i64).pair ((Ty.int IntKind.i64).pair ((Ty.int IntKind.i64).pair Ty.unit)))).mp (Ty.int IntKind.i64)).pair Ty.unit)) ((Md.own false (Md.bor false false)).pair ((Md.own true (Md.bor false false)).pair (Md.bor false false))), PT.val ((Ty.int IntKind.i64).pair ((Ty.int IntKind.i64).pair ((Ty.int IntKind.i64).pair ((Ty.int IntKind.i64).pair Ty.unit)))) (Md.bor true false)] [((((Ty.int IntKind.i64).pair ((Ty.int IntKind.i64).pair ((Ty.int IntKind.i64).pair ((Ty.int IntKind.i64).pair Ty.unit)))).sl.pair ((((Ty.int IntKind.i64).pair ((Ty.int IntKind.i64).pair ((Ty.int IntKind.i64).pair ((Ty.int IntKind.i64).pair Ty.unit)))).mp (Ty.int IntKind.i64)).pair Ty.unit)).bx, Md.own false ((Md.own false (Md.bor false false)).pair ((Md.own true (Md.bor false false)).pair (Md.bor false false)))), (Ty.int IntKind.i64, Md.bor false true)] (resL ([0]) Try.f82) (codeOf Try.f82) ⟨t, x, ()⟩ = weak_terms_put_p nf  t x := by kernel_rfl
  exact h
def weak_terms_put_F (nf : Nat) (x : denPs [.box (.pair (.sl (.pair (.int .i64) (.pair (.int .i64) (.pair (.int .i64) (.pair (.int .i64) (.unit)))))) (.pair (.mp (.pair (.int .i64) (.pair (.int .i64) (.pair (.int .i64) (.pair (.int .i64) (.unit))))) (.int .i64)) (.unit))) (.pair (.own false (.bor false false)) (.pair (.own true (.bor false false)) (.bor false false))), .val (.pair (.int .i64) (.pair (.int .i64) (.pair (.int .i64) (.pair (.int .i64) (.unit))))) (.bor true false)]) : Option (denL [(.bx (.pair (.sl (.pair (.int .i64) (.pair (.int .i64) (.pair (.int .i64) (.pair (.int .i64) (.unit)))))) (.pair (.mp (.pair (.int .i64) (.pair (.int .i64) (.pair (.int .i64) (.pair (.int .i64) (.unit))))) (.int .i64)) (.unit))), .own false (.pair (.own false (.bor false false)) (.pair (.own true (.bor false false)) (.bor false false)))), (.int .i64, .bor false true)]) := weak_terms_put_f nf x.1 x.2.1
def weak_terms_put_C (nf : Nat) : Contract := ⟨[.box (.pair (.sl (.pair (.int .i64) (.pair (.int .i64) (.pair (.int .i64) (.pair (.int .i64) (.unit)))))) (.pair (.mp (.pair (.int .i64) (.pair (.int .i64) (.pair (.int .i64) (.pair (.int .i64) (.unit))))) (.int .i64)) (.unit))) (.pair (.own false (.bor false false)) (.pair (.own true (.bor false false)) (.bor false false))), .val (.pair (.int .i64) (.pair (.int .i64) (.pair (.int .i64) (.pair (.int .i64) (.unit))))) (.bor true false)], [(.bx (.pair (.sl (.pair (.int .i64) (.pair (.int .i64) (.pair (.int .i64) (.pair (.int .i64) (.unit)))))) (.pair (.mp (.pair (.int .i64) (.pair (.int .i64) (.pair (.int .i64) (.pair (.int .i64) (.unit))))) (.int .i64)) (.unit))), .own false (.pair (.own false (.bor false false)) (.pair (.own true (.bor false false)) (.bor false false)))), (.int .i64, .bor false true)], weak_terms_put_F nf, [0]⟩
theorem weak_terms_put_ok : FnOK Try.prog 82 := ⟨Try.f82, codeOf Try.f82, Try.func82, by kernel_rfl, by kernel_rfl⟩
theorem weak_terms_put_holds (nf : Nat) : Contract.Holds Try.prog 82 (weak_terms_put_C nf) :=
  fn_holds (Φ := weak_terms_put_phi nf) (keep := weak_terms_put_keep) (n := nf) ⟨tabs.1, tabs.2, ctx_nil, mixed, bk_ok bkls rfl⟩ (fn := Try.f82) ⟨Try.func82, by kernel_rfl, by kernel_rfl, by kernel_rfl⟩ (fun x => weak_terms_put_eq nf x.1 x.2.1)

/-! codemason weak.Ahead -/
def weak_Ahead_phi (nf : Nat) : Nat → Option Contract := lookC [(20, term_Check_C nf), (81, weak_wrong_C nf), (82, weak_terms_put_C nf)]
def weak_Ahead_keep : Nat → List Nat := lookK [(5, [2, 10, 11, 15, 31, 32, 34, 98, 99, 100, 123, 133, 143]), (2, [1, 2, 10, 11, 31, 32, 34, 48, 49, 50, 123, 133, 143]), (0, [1, 2, 10, 11, 31, 32, 34, 36, 37, 123, 133, 143])]
def weak_Ahead_b0 (nf : Nat) (l2 : List (Int × Int × Int × Int × Int × Unit) → List (Int × Int × Int × Int × Unit) → List Int → List (Int × Int × Int × Int × Unit) × List ((Int × Int × Int × Int × Unit) × Int) × Unit → Int → Option (List (Int × Int × Int × Int × Unit) × Int × Unit)) (code' : List (Int × Int × Int × Int × Int × Unit)) (post : List (Int × Int × Int × Int × Unit)) (vars : Int) (g0 : List Int → List (Int × Int × Int × Int × Unit) × List ((Int × Int × Int × Int × Unit) × Int) × Unit → Int → Option (List (Int × Int × Int × Int × Unit) × Int × Unit)) (is' : List Int) (t32 : List (Int × Int × Int × Int × Unit) × List ((Int × Int × Int × Int × Unit) × Int) × Unit) (t37 : Int) : Option (List (Int × Int × Int × Int × Unit) × Int × Unit) :=
  bif decide (t37 < (↑(List.replicate vars.toNat (0 : Int)).length : Int)) then
    Option.bind (weak_terms_put_f nf t32 ((2, 0, 0, t37, ()))) fun r3 =>
    Option.bind r3.fst fun r4 =>
    bif inb t37 is'.length then
      g0 (is'.set t37.toNat r3.snd.fst) r4 (IntKind.i64.wrap (t37 + 1))
    else
      none
  else
    l2 code' post is' t32 0
def weak_Ahead_b2 (nf : Nat) (l5 : List (Int × Int × Int × Int × Unit) → List Int → List Int → List (Int × Int × Int × Int × Unit) × List ((Int × Int × Int × Int × Unit) × Int) × Unit → Int → Option (List (Int × Int × Int × Int × Unit) × Int × Unit)) (code' : List (Int × Int × Int × Int × Int × Unit)) (post : List (Int × Int × Int × Int × Unit)) (g2 : List Int → List (Int × Int × Int × Int × Unit) × List ((Int × Int × Int × Int × Unit) × Int) × Unit → Int → Option (List (Int × Int × Int × Int × Unit) × Int × Unit)) (is'2 : List Int) (t322 : List (Int × Int × Int × Int × Unit) × List ((Int × Int × Int × Int × Unit) × Int) × Unit) (t50 : Int) : Option (List (Int × Int × Int × Int × Unit) × Int × Unit) :=
  bif decide (t50 < (↑code'.length : Int)) then
    bif inb t50 code'.length then
      bif (code'.getD t50.toNat (0, 0, 0, 0, 0, ())).fst == 1 then
        Option.bind (weak_terms_put_f nf t322 ((1, 0, 0, (code'.getD t50.toNat (0, 0, 0, 0, 0, ())).snd.snd.snd.snd.fst, ()))) fun r5 =>
        Option.bind r5.fst fun r6 =>
        bif inb (code'.getD t50.toNat (0, 0, 0, 0, 0, ())).snd.fst is'2.length then
          g2 (is'2.set (Int.toNat (code'.getD t50.toNat (0, 0, 0, 0, 0, ())).snd.fst) r5.snd.fst) r6 (IntKind.i64.wrap (t50 + 1))
        else
          none
      else
        bif (code'.getD t50.toNat (0, 0, 0, 0, 0, ())).fst == 2 then
          bif inb (code'.getD t50.toNat (0, 0, 0, 0, 0, ())).snd.snd.snd.snd.fst is'2.length then
            bif inb (code'.getD t50.toNat (0, 0, 0, 0, 0, ())).snd.fst is'2.length then
              g2 (is'2.set (Int.toNat (code'.getD t50.toNat (0, 0, 0, 0, 0, ())).snd.fst) (is'2.getD (Int.toNat (code'.getD t50.toNat (0, 0, 0, 0, 0, ())).snd.snd.snd.snd.fst) 0)) t322 (IntKind.i64.wrap (t50 + 1))
            else
              none
          else
            none
        else
          bif inb (code'.getD t50.toNat (0, 0, 0, 0, 0, ())).snd.snd.fst is'2.length then
            bif inb (code'.getD t50.toNat (0, 0, 0, 0, 0, ())).snd.snd.snd.fst is'2.length then
              Option.bind (weak_terms_put_f nf t322 (((code'.getD t50.toNat (0, 0, 0, 0, 0, ())).fst, is'2.getD (Int.toNat (code'.getD t50.toNat (0, 0, 0, 0, 0, ())).snd.snd.fst) 0, is'2.getD (Int.toNat (code'.getD t50.toNat (0, 0, 0, 0, 0, ())).snd.snd.snd.fst) 0, 0, ()))) fun r7 =>
              Option.bind r7.fst fun r8 =>
              bif inb (code'.getD t50.toNat (0, 0, 0, 0, 0, ())).snd.fst is'2.length then
                g2 (is'2.set (Int.toNat (code'.getD t50.toNat (0, 0, 0, 0, 0, ())).snd.fst) r7.snd.fst) r8 (IntKind.i64.wrap (t50 + 1))
              else
                none
            else
              none
          else
            none
    else
      none
  else
    l5 post is'2 [] t322 0
def weak_Ahead_b5 (nf : Nat) (post : List (Int × Int × Int × Int × Unit)) (g5 : List Int → List Int → List (Int × Int × Int × Int × Unit) × List ((Int × Int × Int × Int × Unit) × Int) × Unit → Int → Option (List (Int × Int × Int × Int × Unit) × Int × Unit)) (is'3 : List Int) (at' : List Int) (t323 : List (Int × Int × Int × Int × Unit) × List ((Int × Int × Int × Int × Unit) × Int) × Unit) (t100 : Int) : Option (List (Int × Int × Int × Int × Unit) × Int × Unit) :=
  bif decide (t100 < (↑post.length : Int)) then
    bif inb t100 post.length then
      bif (post.getD t100.toNat (0, 0, 0, 0, ())).fst == 1 then
        Option.bind (weak_terms_put_f nf t323 ((1, 0, 0, (post.getD t100.toNat (0, 0, 0, 0, ())).snd.snd.snd.fst, ()))) fun r9 =>
        Option.bind r9.fst fun r10 =>
        bif bimp false ![r9.snd.fst].isEmpty && (at'.length + [r9.snd.fst].length).ble lim then
          g5 is'3 (at' ++ [r9.snd.fst]) r10 (IntKind.i64.wrap (t100 + 1))
        else
          none
      else
        bif (post.getD t100.toNat (0, 0, 0, 0, ())).fst == 2 then
          bif inb (post.getD t100.toNat (0, 0, 0, 0, ())).snd.snd.snd.fst is'3.length then
            bif bimp false ![is'3.getD (Int.toNat (post.getD t100.toNat (0, 0, 0, 0, ())).snd.snd.snd.fst) 0].isEmpty && (at'.length + [is'3.getD (Int.toNat (post.getD t100.toNat (0, 0, 0, 0, ())).snd.snd.snd.fst) 0].length).ble lim then
              g5 is'3 (at' ++ [is'3.getD (Int.toNat (post.getD t100.toNat (0, 0, 0, 0, ())).snd.snd.snd.fst) 0]) t323 (IntKind.i64.wrap (t100 + 1))
            else
              none
          else
            none
        else
          bif inb (post.getD t100.toNat (0, 0, 0, 0, ())).snd.fst at'.length then
            bif inb (post.getD t100.toNat (0, 0, 0, 0, ())).snd.snd.fst at'.length then
              Option.bind (weak_terms_put_f nf t323 (((post.getD t100.toNat (0, 0, 0, 0, ())).fst, at'.getD (Int.toNat (post.getD t100.toNat (0, 0, 0, 0, ())).snd.fst) 0, at'.getD (Int.toNat (post.getD t100.toNat (0, 0, 0, 0, ())).snd.snd.fst) 0, 0, ()))) fun r11 =>
              Option.bind r11.fst fun r12 =>
              bif bimp false ![r11.snd.fst].isEmpty && (at'.length + [r11.snd.fst].length).ble lim then
                g5 is'3 (at' ++ [r11.snd.fst]) r12 (IntKind.i64.wrap (t100 + 1))
              else
                none
            else
              none
          else
            none
    else
      none
  else
    bif inb (IntKind.i64.wrap ((↑at'.length : Int) - 1)) at'.length then
      bif inb (IntKind.i64.wrap ((↑at'.length : Int) - 1)) at'.length then
        bif (some (Operand.tmp 155)).isSome && decide (0 ≤ (↑0 : Int)) && decide ((↑0 : Int) ≤ IntKind.i64.wrap (at'.getD (IntKind.i64.wrap ((↑at'.length : Int) - 1)).toNat 0 + 1)) && decide (IntKind.i64.wrap (at'.getD (IntKind.i64.wrap ((↑at'.length : Int) - 1)).toNat 0 + 1) = IntKind.i64.wrap (at'.getD (IntKind.i64.wrap ((↑at'.length : Int) - 1)).toNat 0 + 1)) && decide (IntKind.i64.wrap (at'.getD (IntKind.i64.wrap ((↑at'.length : Int) - 1)).toNat 0 + 1) ≤ (↑(List.length t323.fst) : Int)) then
          some ((List.take (IntKind.i64.wrap (at'.getD (IntKind.i64.wrap ((↑at'.length : Int) - 1)).toNat 0 + 1) - (↑0 : Int)).toNat (List.drop 0 t323.fst), 0, ()))
        else
          none
      else
        none
    else
      none
def weak_Ahead_p (nf : Nat) (l0 : List (Int × Int × Int × Int × Int × Unit) → List (Int × Int × Int × Int × Unit) → Int → List Int → List (Int × Int × Int × Int × Unit) × List ((Int × Int × Int × Int × Unit) × Int) × Unit → Int → Option (List (Int × Int × Int × Int × Unit) × Int × Unit)) (vars : Int) (code' : List (Int × Int × Int × Int × Int × Unit)) (post : List (Int × Int × Int × Int × Unit)) : Option (List (Int × Int × Int × Int × Unit) × Int × Unit) :=
  Option.bind (weak_wrong_f nf vars code') fun r =>
  bif r.fst != 0 then
    some (([], r.fst, ()))
  else
    Option.bind (term_Check_f nf vars post) fun r2 =>
    bif r2.fst != 0 then
      some (([], r2.fst, ()))
    else
      bif decide (0 ≤ vars) && decide (vars ≤ vars) && decide (vars ≤ (↑lim : Int)) then
        l0 code' post vars (List.replicate vars.toNat 0) (([], [], ())) 0
      else
        none
def weak_Ahead_l5 (nf : Nat) (post : List (Int × Int × Int × Int × Unit)) : Nat → List Int → List Int → List (Int × Int × Int × Int × Unit) × List ((Int × Int × Int × Int × Unit) × Int) × Unit → Int → Option (List (Int × Int × Int × Int × Unit) × Int × Unit)
  | 0, _, _, _, _ => none
  | fu + 1, is'3, at', t323, t100 => weak_Ahead_b5 nf  post  (weak_Ahead_l5 nf post  fu) is'3 at' t323 t100
def weak_Ahead_l2 (nf : Nat) (code' : List (Int × Int × Int × Int × Int × Unit)) (post : List (Int × Int × Int × Int × Unit)) : Nat → List Int → List (Int × Int × Int × Int × Unit) × List ((Int × Int × Int × Int × Unit) × Int) × Unit → Int → Option (List (Int × Int × Int × Int × Unit) × Int × Unit)
  | 0, _, _, _ => none
  | fu + 1, is'2, t322, t50 => weak_Ahead_b2 nf (fun _ v0 v1 v2 v3 => weak_Ahead_l5 nf post  nf v0 v1 v2 v3) code' post  (weak_Ahead_l2 nf code' post  fu) is'2 t322 t50
def weak_Ahead_l0 (nf : Nat) (code' : List (Int × Int × Int × Int × Int × Unit)) (post : List (Int × Int × Int × Int × Unit)) (vars : Int) : Nat → List Int → List (Int × Int × Int × Int × Unit) × List ((Int × Int × Int × Int × Unit) × Int) × Unit → Int → Option (List (Int × Int × Int × Int × Unit) × Int × Unit)
  | 0, _, _, _ => none
  | fu + 1, is', t32, t37 => weak_Ahead_b0 nf (fun _ _ v0 v1 v2 => weak_Ahead_l2 nf code' post  nf v0 v1 v2) code' post vars  (weak_Ahead_l0 nf code' post vars  fu) is' t32 t37
def weak_Ahead_f (nf : Nat) (vars : Int) (code' : List (Int × Int × Int × Int × Int × Unit)) (post : List (Int × Int × Int × Int × Unit)) : Option (List (Int × Int × Int × Int × Unit) × Int × Unit) := weak_Ahead_p nf (fun p0 p1 p2 v0 v1 v2 => weak_Ahead_l0 nf p0 p1 p2 nf v0 v1 v2) vars code' post
noncomputable def weak_Ahead_L0 (nf : Nat) : LC (List (Int × Int × Int × Int × Unit) × Int × Unit) := theL (findL tab (weak_Ahead_phi nf) (fun _ F => iter nf F) weak_Ahead_keep 0 0 (codeOf Try.f54) (fin tab [(((Ty.int IntKind.i64).pair ((Ty.int IntKind.i64).pair ((Ty.int IntKind.i64).pair ((Ty.int IntKind.i64).pair Ty.unit)))).sl, Md.own false (Md.bor false false)), (Ty.int IntKind.i64, Md.bor false true)] (resL ([]) Try.f54)) (fun _ _ => none) (fin tab [(((Ty.int IntKind.i64).pair ((Ty.int IntKind.i64).pair ((Ty.int IntKind.i64).pair ((Ty.int IntKind.i64).pair Ty.unit)))).sl, Md.own false (Md.bor false false)), (Ty.int IntKind.i64, Md.bor false true)] (resL ([]) Try.f54)))
def weak_Ahead_m0 (code' : List (Int × Int × Int × Int × Int × Unit)) (post : List (Int × Int × Int × Int × Unit)) (vars : Int) (is' : List Int) (t32 : List (Int × Int × Int × Int × Unit) × List ((Int × Int × Int × Int × Unit) × Int) × Unit) (t37 : Int) : St := ⟨fresh, [(1, AV.v ((Ty.int IntKind.i64).pair ((Ty.int IntKind.i64).pair ((Ty.int IntKind.i64).pair ((Ty.int IntKind.i64).pair ((Ty.int IntKind.i64).pair Ty.unit))))).sl (Md.bor true false) code'), (2, AV.v ((Ty.int IntKind.i64).pair ((Ty.int IntKind.i64).pair ((Ty.int IntKind.i64).pair ((Ty.int IntKind.i64).pair Ty.unit)))).sl (Md.bor true false) post), (10, AV.pl 32 32 [Stp.dr]), (11, AV.ow 500011 (Ty.int IntKind.i64).sl (Md.own false (Md.bor false false)) is'), (31, AV.dead), (32, AV.box 32 500032 (((Ty.int IntKind.i64).pair ((Ty.int IntKind.i64).pair ((Ty.int IntKind.i64).pair ((Ty.int IntKind.i64).pair Ty.unit)))).sl.pair ((((Ty.int IntKind.i64).pair ((Ty.int IntKind.i64).pair ((Ty.int IntKind.i64).pair ((Ty.int IntKind.i64).pair Ty.unit)))).mp (Ty.int IntKind.i64)).pair Ty.unit)) ((Md.own false (Md.bor false false)).pair ((Md.own true (Md.bor false false)).pair (Md.bor false false))) t32), (34, AV.dead), (36, AV.v (Ty.int IntKind.i64) (Md.bor false true) (↑(List.replicate vars.toNat (0 : Int)).length : Int)), (37, AV.v (Ty.int IntKind.i64) (Md.bor false true) t37), (123, AV.dead), (133, AV.dead), (143, AV.dead)]⟩
noncomputable def weak_Ahead_L2 (nf : Nat) : LC (List (Int × Int × Int × Int × Unit) × Int × Unit) := theL (findL tab (weak_Ahead_phi nf) (fun _ F => iter nf F) weak_Ahead_keep 2 0 (codeOf Try.f54) (fin tab [(((Ty.int IntKind.i64).pair ((Ty.int IntKind.i64).pair ((Ty.int IntKind.i64).pair ((Ty.int IntKind.i64).pair Ty.unit)))).sl, Md.own false (Md.bor false false)), (Ty.int IntKind.i64, Md.bor false true)] (resL ([]) Try.f54)) (fun _ _ => none) (fin tab [(((Ty.int IntKind.i64).pair ((Ty.int IntKind.i64).pair ((Ty.int IntKind.i64).pair ((Ty.int IntKind.i64).pair Ty.unit)))).sl, Md.own false (Md.bor false false)), (Ty.int IntKind.i64, Md.bor false true)] (resL ([]) Try.f54)))
def weak_Ahead_m2 (code' : List (Int × Int × Int × Int × Int × Unit)) (post : List (Int × Int × Int × Int × Unit)) (is'2 : List Int) (t322 : List (Int × Int × Int × Int × Unit) × List ((Int × Int × Int × Int × Unit) × Int) × Unit) (t50 : Int) : St := ⟨fresh, [(1, AV.v ((Ty.int IntKind.i64).pair ((Ty.int IntKind.i64).pair ((Ty.int IntKind.i64).pair ((Ty.int IntKind.i64).pair ((Ty.int IntKind.i64).pair Ty.unit))))).sl (Md.bor true false) code'), (2, AV.v ((Ty.int IntKind.i64).pair ((Ty.int IntKind.i64).pair ((Ty.int IntKind.i64).pair ((Ty.int IntKind.i64).pair Ty.unit)))).sl (Md.bor true false) post), (10, AV.pl 32 32 [Stp.dr]), (11, AV.ow 500011 (Ty.int IntKind.i64).sl (Md.own false (Md.bor false false)) is'2), (31, AV.dead), (32, AV.box 32 500032 (((Ty.int IntKind.i64).pair ((Ty.int IntKind.i64).pair ((Ty.int IntKind.i64).pair ((Ty.int IntKind.i64).pair Ty.unit)))).sl.pair ((((Ty.int IntKind.i64).pair ((Ty.int IntKind.i64).pair ((Ty.int IntKind.i64).pair ((Ty.int IntKind.i64).pair Ty.unit)))).mp (Ty.int IntKind.i64)).pair Ty.unit)) ((Md.own false (Md.bor false false)).pair ((Md.own true (Md.bor false false)).pair (Md.bor false false))) t322), (34, AV.dead), (48, AV.v ((Ty.int IntKind.i64).pair ((Ty.int IntKind.i64).pair ((Ty.int IntKind.i64).pair ((Ty.int IntKind.i64).pair ((Ty.int IntKind.i64).pair Ty.unit))))).sl (Md.bor true false) code'), (49, AV.v (Ty.int IntKind.i64) (Md.bor false true) (↑code'.length : Int)), (50, AV.v (Ty.int IntKind.i64) (Md.bor false true) t50), (123, AV.dead), (133, AV.dead), (143, AV.dead)]⟩
noncomputable def weak_Ahead_L5 (nf : Nat) : LC (List (Int × Int × Int × Int × Unit) × Int × Unit) := theL (findL tab (weak_Ahead_phi nf) (fun _ F => iter nf F) weak_Ahead_keep 5 0 (codeOf Try.f54) (fin tab [(((Ty.int IntKind.i64).pair ((Ty.int IntKind.i64).pair ((Ty.int IntKind.i64).pair ((Ty.int IntKind.i64).pair Ty.unit)))).sl, Md.own false (Md.bor false false)), (Ty.int IntKind.i64, Md.bor false true)] (resL ([]) Try.f54)) (fun _ _ => none) (fin tab [(((Ty.int IntKind.i64).pair ((Ty.int IntKind.i64).pair ((Ty.int IntKind.i64).pair ((Ty.int IntKind.i64).pair Ty.unit)))).sl, Md.own false (Md.bor false false)), (Ty.int IntKind.i64, Md.bor false true)] (resL ([]) Try.f54)))
def weak_Ahead_m5 (post : List (Int × Int × Int × Int × Unit)) (is'3 : List Int) (at' : List Int) (t323 : List (Int × Int × Int × Int × Unit) × List ((Int × Int × Int × Int × Unit) × Int) × Unit) (t100 : Int) : St := ⟨fresh, [(2, AV.v ((Ty.int IntKind.i64).pair ((Ty.int IntKind.i64).pair ((Ty.int IntKind.i64).pair ((Ty.int IntKind.i64).pair Ty.unit)))).sl (Md.bor true false) post), (10, AV.pl 32 32 [Stp.dr]), (11, AV.ow 500011 (Ty.int IntKind.i64).sl (Md.own false (Md.bor false false)) is'3), (15, AV.ow 500015 (Ty.int IntKind.i64).sl (Md.own false (Md.bor false false)) at'), (31, AV.dead), (32, AV.box 32 500032 (((Ty.int IntKind.i64).pair ((Ty.int IntKind.i64).pair ((Ty.int IntKind.i64).pair ((Ty.int IntKind.i64).pair Ty.unit)))).sl.pair ((((Ty.int IntKind.i64).pair ((Ty.int IntKind.i64).pair ((Ty.int IntKind.i64).pair ((Ty.int IntKind.i64).pair Ty.unit)))).mp (Ty.int IntKind.i64)).pair Ty.unit)) ((Md.own false (Md.bor false false)).pair ((Md.own true (Md.bor false false)).pair (Md.bor false false))) t323), (34, AV.dead), (98, AV.v ((Ty.int IntKind.i64).pair ((Ty.int IntKind.i64).pair ((Ty.int IntKind.i64).pair ((Ty.int IntKind.i64).pair Ty.unit)))).sl (Md.bor true false) post), (99, AV.v (Ty.int IntKind.i64) (Md.bor false true) (↑post.length : Int)), (100, AV.v (Ty.int IntKind.i64) (Md.bor false true) t100), (123, AV.dead), (133, AV.dead), (143, AV.dead)]⟩
theorem weak_Ahead_h5 (nf : Nat)  (post : List (Int × Int × Int × Int × Unit)) (fu : Nat) (is'3 : List Int) (at' : List Int) (t323 : List (Int × Int × Int × Int × Unit) × List ((Int × Int × Int × Int × Unit) × Int) × Unit) (t100 : Int) : iter (fu + 1) (LC.F tab (weak_Ahead_phi nf) (fun _ F => iter nf F) weak_Ahead_keep 5 (weak_Ahead_L5 nf )) (weak_Ahead_m5 post is'3 at' t323 t100) = weak_Ahead_b5 nf  post  (fun is'3 at' t323 t100 => iter fu (LC.F tab (weak_Ahead_phi nf) (fun _ F => iter nf F) weak_Ahead_keep 5 (weak_Ahead_L5 nf )) (weak_Ahead_m5 post is'3 at' t323 t100)) is'3 at' t323 t100 := by kernel_rfl
theorem weak_Ahead_e5 (nf : Nat)  (post : List (Int × Int × Int × Int × Unit)) : ∀ (fu : Nat) (is'3 : List Int) (at' : List Int) (t323 : List (Int × Int × Int × Int × Unit) × List ((Int × Int × Int × Int × Unit) × Int) × Unit) (t100 : Int), iter fu (LC.F tab (weak_Ahead_phi nf) (fun _ F => iter nf F) weak_Ahead_keep 5 (weak_Ahead_L5 nf )) (weak_Ahead_m5 post is'3 at' t323 t100) = weak_Ahead_l5 nf post  fu is'3 at' t323 t100 := by
  intro fu
  induction fu with
  | zero => intros; rfl
  | succ fu ih =>
    intro is'3 at' t323 t100
    rw [weak_Ahead_h5 nf  post fu is'3 at' t323 t100]
    simp only [ih]
    rfl
theorem weak_Ahead_h2 (nf : Nat)  (code' : List (Int × Int × Int × Int × Int × Unit)) (post : List (Int × Int × Int × Int × Unit)) (fu : Nat) (is'2 : List Int) (t322 : List (Int × Int × Int × Int × Unit) × List ((Int × Int × Int × Int × Unit) × Int) × Unit) (t50 : Int) : iter (fu + 1) (LC.F tab (weak_Ahead_phi nf) (fun _ F => iter nf F) weak_Ahead_keep 2 (weak_Ahead_L2 nf )) (weak_Ahead_m2 code' post is'2 t322 t50) = weak_Ahead_b2 nf (fun _ v0 v1 v2 v3 => iter nf (LC.F tab (weak_Ahead_phi nf) (fun _ F => iter nf F) weak_Ahead_keep 5 (weak_Ahead_L5 nf )) (weak_Ahead_m5 post v0 v1 v2 v3)) code' post  (fun is'2 t322 t50 => iter fu (LC.F tab (weak_Ahead_phi nf) (fun _ F => iter nf F) weak_Ahead_keep 2 (weak_Ahead_L2 nf )) (weak_Ahead_m2 code' post is'2 t322 t50)) is'2 t322 t50 := by kernel_rfl
theorem weak_Ahead_e2 (nf : Nat)  (code' : List (Int × Int × Int × Int × Int × Unit)) (post : List (Int × Int × Int × Int × Unit)) : ∀ (fu : Nat) (is'2 : List Int) (t322 : List (Int × Int × Int × Int × Unit) × List ((Int × Int × Int × Int × Unit) × Int) × Unit) (t50 : Int), iter fu (LC.F tab (weak_Ahead_phi nf) (fun _ F => iter nf F) weak_Ahead_keep 2 (weak_Ahead_L2 nf )) (weak_Ahead_m2 code' post is'2 t322 t50) = weak_Ahead_l2 nf code' post  fu is'2 t322 t50 := by
  intro fu
  induction fu with
  | zero => intros; rfl
  | succ fu ih =>
    intro is'2 t322 t50
    rw [weak_Ahead_h2 nf  code' post fu is'2 t322 t50]
    simp only [ih, weak_Ahead_e5]
    rfl
theorem weak_Ahead_h0 (nf : Nat)  (code' : List (Int × Int × Int × Int × Int × Unit)) (post : List (Int × Int × Int × Int × Unit)) (vars : Int) (fu : Nat) (is' : List Int) (t32 : List (Int × Int × Int × Int × Unit) × List ((Int × Int × Int × Int × Unit) × Int) × Unit) (t37 : Int) : iter (fu + 1) (LC.F tab (weak_Ahead_phi nf) (fun _ F => iter nf F) weak_Ahead_keep 0 (weak_Ahead_L0 nf )) (weak_Ahead_m0 code' post vars is' t32 t37) = weak_Ahead_b0 nf (fun _ _ v0 v1 v2 => iter nf (LC.F tab (weak_Ahead_phi nf) (fun _ F => iter nf F) weak_Ahead_keep 2 (weak_Ahead_L2 nf )) (weak_Ahead_m2 code' post v0 v1 v2)) code' post vars  (fun is' t32 t37 => iter fu (LC.F tab (weak_Ahead_phi nf) (fun _ F => iter nf F) weak_Ahead_keep 0 (weak_Ahead_L0 nf )) (weak_Ahead_m0 code' post vars is' t32 t37)) is' t32 t37 := by kernel_rfl
theorem weak_Ahead_e0 (nf : Nat)  (code' : List (Int × Int × Int × Int × Int × Unit)) (post : List (Int × Int × Int × Int × Unit)) (vars : Int) : ∀ (fu : Nat) (is' : List Int) (t32 : List (Int × Int × Int × Int × Unit) × List ((Int × Int × Int × Int × Unit) × Int) × Unit) (t37 : Int), iter fu (LC.F tab (weak_Ahead_phi nf) (fun _ F => iter nf F) weak_Ahead_keep 0 (weak_Ahead_L0 nf )) (weak_Ahead_m0 code' post vars is' t32 t37) = weak_Ahead_l0 nf code' post vars  fu is' t32 t37 := by
  intro fu
  induction fu with
  | zero => intros; rfl
  | succ fu ih =>
    intro is' t32 t37
    rw [weak_Ahead_h0 nf  code' post vars fu is' t32 t37]
    simp only [ih, weak_Ahead_e2]
    rfl
theorem weak_Ahead_eq (nf : Nat) (vars : Int) (code' : List (Int × Int × Int × Int × Int × Unit)) (post : List (Int × Int × Int × Int × Unit)) : runF tab (weak_Ahead_phi nf) weak_Ahead_keep nf [PT.val (Ty.int IntKind.i64) (Md.bor true false), PT.val ((Ty.int IntKind.i64).pair ((Ty.int IntKind.i64).pair ((Ty.int IntKind.i64).pair ((Ty.int IntKind.i64).pair ((Ty.int IntKind.i64).pair Ty.unit))))).sl (Md.bor true false), PT.val ((Ty.int IntKind.i64).pair ((Ty.int IntKind.i64).pair ((Ty.int IntKind.i64).pair ((Ty.int IntKind.i64).pair Ty.unit)))).sl (Md.bor true false)] [(((Ty.int IntKind.i64).pair ((Ty.int IntKind.i64).pair ((Ty.int IntKind.i64).pair ((Ty.int IntKind.i64).pair Ty.unit)))).sl, Md.own false (Md.bor false false)), (Ty.int IntKind.i64, Md.bor false true)] (resL ([]) Try.f54) (codeOf Try.f54) ⟨vars, code', post, ()⟩ = weak_Ahead_f nf vars code' post := by
  have h : runF tab (weak_Ahead_phi nf) weak_Ahead_keep nf [PT.val (Ty.int IntKind.i64) (Md.bor true false), PT.val ((Ty.int IntKind.i64).pair ((Ty.int IntKind.i64).pair ((Ty.int IntKind.i64).pair ((Ty.int IntKind.i64).pair ((Ty.int IntKind.i64).pair Ty.unit))))).sl (Md.bor true false), PT.val ((Ty.int IntKind.i64).pair ((Ty.int IntKind.i64).pair ((Ty.int IntKind.i64).pair ((Ty.int IntKind.i64).pair Ty.unit)))).sl (Md.bor true false)] [(((Ty.int IntKind.i64).pair ((Ty.int IntKind.i64).pair ((Ty.int IntKind.i64).pair ((Ty.int IntKind.i64).pair Ty.unit)))).sl, Md.own false (Md.bor false false)), (Ty.int IntKind.i64, Md.bor false true)] (resL ([]) Try.f54) (codeOf Try.f54) ⟨vars, code', post, ()⟩ = weak_Ahead_p nf (fun p0 p1 p2 v0 v1 v2 => iter nf (LC.F tab (weak_Ahead_phi nf) (fun _ F => iter nf F) weak_Ahead_keep 0 (weak_Ahead_L0 nf)) (weak_Ahead_m0 p0 p1 p2 v0 v1 v2)) vars code' post := by kernel_rfl
  rw [h]
  simp only [weak_Ahead_e0]
  rfl
def weak_Ahead_F (nf : Nat) (x : denPs [.val (.int .i64) (.bor true false), .val (.sl (.pair (.int .i64) (.pair (.int .i64) (.pair (.int .i64) (.pair (.int .i64) (.pair (.int .i64) (.unit))))))) (.bor true false), .val (.sl (.pair (.int .i64) (.pair (.int .i64) (.pair (.int .i64) (.pair (.int .i64) (.unit)))))) (.bor true false)]) : Option (denL [(.sl (.pair (.int .i64) (.pair (.int .i64) (.pair (.int .i64) (.pair (.int .i64) (.unit))))), .own false (.bor false false)), (.int .i64, .bor false true)]) := weak_Ahead_f nf x.1 x.2.1 x.2.2.1
def weak_Ahead_C (nf : Nat) : Contract := ⟨[.val (.int .i64) (.bor true false), .val (.sl (.pair (.int .i64) (.pair (.int .i64) (.pair (.int .i64) (.pair (.int .i64) (.pair (.int .i64) (.unit))))))) (.bor true false), .val (.sl (.pair (.int .i64) (.pair (.int .i64) (.pair (.int .i64) (.pair (.int .i64) (.unit)))))) (.bor true false)], [(.sl (.pair (.int .i64) (.pair (.int .i64) (.pair (.int .i64) (.pair (.int .i64) (.unit))))), .own false (.bor false false)), (.int .i64, .bor false true)], weak_Ahead_F nf, []⟩
theorem weak_Ahead_ok : FnOK Try.prog 54 := ⟨Try.f54, codeOf Try.f54, Try.func54, by kernel_rfl, by kernel_rfl⟩
theorem weak_Ahead_holds (nf : Nat) : Contract.Holds Try.prog 54 (weak_Ahead_C nf) :=
  fn_holds (Φ := weak_Ahead_phi nf) (keep := weak_Ahead_keep) (n := nf) ⟨tabs.1, tabs.2, (ctx_cons term_Check_ok (term_Check_holds nf) (ctx_cons weak_wrong_ok (weak_wrong_holds nf) (ctx_cons weak_terms_put_ok (weak_terms_put_holds nf) ctx_nil))), mixed, bk_ok bkls rfl⟩ (fn := Try.f54) ⟨Try.func54, by kernel_rfl, by kernel_rfl, by kernel_rfl⟩ (fun x => weak_Ahead_eq nf x.1 x.2.1 x.2.2.1)

/-! codemason codemasonref.StepCheck -/
def ref_StepCheck_phi (nf : Nat) : Nat → Option Contract := lookC [(50, ref_Inside_C nf), (56, ref_Value_C nf)]
def ref_StepCheck_keep : Nat → List Nat := lookK []
def ref_StepCheck_p (nf : Nat)  (vars : Int) (regs : Int) (s : Int × Int × Int × Int × Int × Unit) : Option (Int × Unit) :=
  bif decide (s.fst < 1) then
    some ((6, ()))
  else
    bif decide (s.fst > 6) then
      some ((6, ()))
    else
      bif s.fst == 1 then
        Option.bind (ref_Value_f nf s.snd.snd.snd.snd.fst) fun r =>
        bif !r.fst then
          some ((4, ()))
        else
          bif s.fst == 2 then
            Option.bind (ref_Inside_f nf vars ([s.snd.snd.snd.snd.fst])) fun r2 =>
            bif !r2.fst then
              some ((4, ()))
            else
              Option.bind (ref_Inside_f nf regs ([s.snd.fst])) fun r3 =>
              bif !r3.fst then
                some ((2, ()))
              else
                bif decide (s.fst ≥ 3) then
                  Option.bind (ref_Inside_f nf regs ([s.snd.snd.fst, s.snd.snd.snd.fst])) fun r4 =>
                  bif !r4.fst then
                    some ((2, ()))
                  else
                    some ((0, ()))
                else
                  some ((0, ()))
          else
            Option.bind (ref_Inside_f nf regs ([s.snd.fst])) fun r5 =>
            bif !r5.fst then
              some ((2, ()))
            else
              bif decide (s.fst ≥ 3) then
                Option.bind (ref_Inside_f nf regs ([s.snd.snd.fst, s.snd.snd.snd.fst])) fun r6 =>
                bif !r6.fst then
                  some ((2, ()))
                else
                  some ((0, ()))
              else
                some ((0, ()))
      else
        bif s.fst == 2 then
          Option.bind (ref_Inside_f nf vars ([s.snd.snd.snd.snd.fst])) fun r7 =>
          bif !r7.fst then
            some ((4, ()))
          else
            Option.bind (ref_Inside_f nf regs ([s.snd.fst])) fun r8 =>
            bif !r8.fst then
              some ((2, ()))
            else
              bif decide (s.fst ≥ 3) then
                Option.bind (ref_Inside_f nf regs ([s.snd.snd.fst, s.snd.snd.snd.fst])) fun r9 =>
                bif !r9.fst then
                  some ((2, ()))
                else
                  some ((0, ()))
              else
                some ((0, ()))
        else
          Option.bind (ref_Inside_f nf regs ([s.snd.fst])) fun r10 =>
          bif !r10.fst then
            some ((2, ()))
          else
            bif decide (s.fst ≥ 3) then
              Option.bind (ref_Inside_f nf regs ([s.snd.snd.fst, s.snd.snd.snd.fst])) fun r11 =>
              bif !r11.fst then
                some ((2, ()))
              else
                some ((0, ()))
            else
              some ((0, ()))
def ref_StepCheck_f (nf : Nat) (vars : Int) (regs : Int) (s : Int × Int × Int × Int × Int × Unit) : Option (Int × Unit) := ref_StepCheck_p nf  vars regs s
theorem ref_StepCheck_eq (nf : Nat) (vars : Int) (regs : Int) (s : Int × Int × Int × Int × Int × Unit) : runF tab (ref_StepCheck_phi nf) ref_StepCheck_keep nf [PT.val (Ty.int IntKind.i64) (Md.bor true false), PT.val (Ty.int IntKind.i64) (Md.bor true false), PT.val ((Ty.int IntKind.i64).pair ((Ty.int IntKind.i64).pair ((Ty.int IntKind.i64).pair ((Ty.int IntKind.i64).pair ((Ty.int IntKind.i64).pair Ty.unit))))) (Md.bor true false)] [(Ty.int IntKind.i64, Md.bor false true)] (resL ([]) Try.f75) (codeOf Try.f75) ⟨vars, regs, s, ()⟩ = ref_StepCheck_f nf vars regs s := by
  have h : runF tab (ref_StepCheck_phi nf) ref_StepCheck_keep nf [PT.val (Ty.int IntKind.i64) (Md.bor true false), PT.val (Ty.int IntKind.i64) (Md.bor true false), PT.val ((Ty.int IntKind.i64).pair ((Ty.int IntKind.i64).pair ((Ty.int IntKind.i64).pair ((Ty.int IntKind.i64).pair ((Ty.int IntKind.i64).pair Ty.unit))))) (Md.bor true false)] [(Ty.int IntKind.i64, Md.bor false true)] (resL ([]) Try.f75) (codeOf Try.f75) ⟨vars, regs, s, ()⟩ = ref_StepCheck_p nf  vars regs s := by kernel_rfl
  exact h
def ref_StepCheck_F (nf : Nat) (x : denPs [.val (.int .i64) (.bor true false), .val (.int .i64) (.bor true false), .val (.pair (.int .i64) (.pair (.int .i64) (.pair (.int .i64) (.pair (.int .i64) (.pair (.int .i64) (.unit)))))) (.bor true false)]) : Option (denL [(.int .i64, .bor false true)]) := ref_StepCheck_f nf x.1 x.2.1 x.2.2.1
def ref_StepCheck_C (nf : Nat) : Contract := ⟨[.val (.int .i64) (.bor true false), .val (.int .i64) (.bor true false), .val (.pair (.int .i64) (.pair (.int .i64) (.pair (.int .i64) (.pair (.int .i64) (.pair (.int .i64) (.unit)))))) (.bor true false)], [(.int .i64, .bor false true)], ref_StepCheck_F nf, []⟩
theorem ref_StepCheck_ok : FnOK Try.prog 75 := ⟨Try.f75, codeOf Try.f75, Try.func75, by kernel_rfl, by kernel_rfl⟩
theorem ref_StepCheck_holds (nf : Nat) : Contract.Holds Try.prog 75 (ref_StepCheck_C nf) :=
  fn_holds (Φ := ref_StepCheck_phi nf) (keep := ref_StepCheck_keep) (n := nf) ⟨tabs.1, tabs.2, (ctx_cons ref_Inside_ok (ref_Inside_holds nf) (ctx_cons ref_Value_ok (ref_Value_holds nf) ctx_nil)), mixed, bk_ok bkls rfl⟩ (fn := Try.f75) ⟨Try.func75, by kernel_rfl, by kernel_rfl, by kernel_rfl⟩ (fun x => ref_StepCheck_eq nf x.1 x.2.1 x.2.2.1)

/-! codemason codemasonref.ProgCheck -/
def ref_ProgCheck_phi (nf : Nat) : Nat → Option Contract := lookC [(50, ref_Inside_C nf), (75, ref_StepCheck_C nf)]
def ref_ProgCheck_keep : Nat → List Nat := lookK [(4, [0, 1, 9, 45, 46, 47, 51, 52, 53, 54]), (2, [0, 1, 45, 46, 47]), (0, [0, 1, 5, 13, 14, 15])]
def ref_ProgCheck_b0 (nf : Nat) (l2 : Int → List (List (Int × Int × Int × Int × Int × Unit) × Int × Int × Int × Unit) → Int → Option (Int × Unit)) (vars : Int) (p : List (List (Int × Int × Int × Int × Int × Unit) × Int × Int × Int × Unit)) (g0 : Int → Int → Option (Int × Unit)) (many : Int) (t15 : Int) : Option (Int × Unit) :=
  bif decide (t15 < (↑p.length : Int)) then
    bif inb t15 p.length then
      g0 (IntKind.i64.wrap (many + (↑(List.length (p.getD t15.toNat ([], 0, 0, 0, ())).fst) : Int))) (IntKind.i64.wrap (t15 + 1))
    else
      none
  else
    bif decide (vars < 1) then
      some ((1, ()))
    else
      bif decide (vars > 6) then
        some ((1, ()))
      else
        bif decide ((↑p.length : Int) < 1) then
          some ((1, ()))
        else
          bif decide ((↑p.length : Int) > 8) then
            some ((1, ()))
          else
            bif decide (many > 20) then
              some ((1, ()))
            else
              l2 vars p 0
def ref_ProgCheck_b2 (nf : Nat) (l4 : Int → List (List (Int × Int × Int × Int × Int × Unit) × Int × Int × Int × Unit) → Int → List (Int × Int × Int × Int × Int × Unit) × Int × Int × Int × Unit → Int → Option (Int × Unit)) (vars : Int) (p : List (List (Int × Int × Int × Int × Int × Unit) × Int × Int × Int × Unit)) (g2 : Int → Option (Int × Unit)) (t47 : Int) : Option (Int × Unit) :=
  bif decide (t47 < (↑p.length : Int)) then
    bif inb t47 p.length then
      l4 vars p t47 (p.getD t47.toNat ([], 0, 0, 0, ())) 0
    else
      none
  else
    some ((0, ()))
def ref_ProgCheck_b4 (nf : Nat) (vars : Int) (p : List (List (Int × Int × Int × Int × Int × Unit) × Int × Int × Int × Unit)) (t47 : Int) (g2 : Int → Option (Int × Unit)) (g4 : List (Int × Int × Int × Int × Int × Unit) × Int × Int × Int × Unit → Int → Option (Int × Unit)) (b : List (Int × Int × Int × Int × Int × Unit) × Int × Int × Int × Unit) (t54 : Int) : Option (Int × Unit) :=
  bif decide (t54 < (↑(List.length (p.getD t47.toNat ([], 0, 0, 0, ())).fst) : Int)) then
    bif inb t54 (List.length (p.getD t47.toNat ([], 0, 0, 0, ())).fst) then
      Option.bind (ref_StepCheck_f nf vars vars (List.getD (p.getD t47.toNat ([], 0, 0, 0, ())).fst t54.toNat (0, 0, 0, 0, 0, ()))) fun r =>
      bif r.fst != 0 then
        some ((r.fst, ()))
      else
        g4 b (IntKind.i64.wrap (t54 + 1))
    else
      none
  else
    bif b.snd.fst != (-1) then
      Option.bind (ref_Inside_f nf vars ([b.snd.fst])) fun r2 =>
      bif !r2.fst then
        some ((2, ()))
      else
        bif b.snd.fst == (-1) then
          bif b.snd.snd.fst != (-1) then
            Option.bind (ref_Inside_f nf ((↑p.length : Int)) ([b.snd.snd.fst])) fun r3 =>
            bif !r3.fst then
              some ((3, ()))
            else
              bif decide (b.snd.fst ≥ 0) then
                Option.bind (ref_Inside_f nf ((↑p.length : Int)) ([b.snd.snd.fst, b.snd.snd.snd.fst])) fun r4 =>
                bif !r4.fst then
                  some ((3, ()))
                else
                  g2 (IntKind.i64.wrap (t47 + 1))
              else
                g2 (IntKind.i64.wrap (t47 + 1))
          else
            bif decide (b.snd.fst ≥ 0) then
              Option.bind (ref_Inside_f nf ((↑p.length : Int)) ([b.snd.snd.fst, b.snd.snd.snd.fst])) fun r5 =>
              bif !r5.fst then
                some ((3, ()))
              else
                g2 (IntKind.i64.wrap (t47 + 1))
            else
              g2 (IntKind.i64.wrap (t47 + 1))
        else
          bif decide (b.snd.fst ≥ 0) then
            Option.bind (ref_Inside_f nf ((↑p.length : Int)) ([b.snd.snd.fst, b.snd.snd.snd.fst])) fun r6 =>
            bif !r6.fst then
              some ((3, ()))
            else
              g2 (IntKind.i64.wrap (t47 + 1))
          else
            g2 (IntKind.i64.wrap (t47 + 1))
    else
      bif b.snd.fst == (-1) then
        bif b.snd.snd.fst != (-1) then
          Option.bind (ref_Inside_f nf ((↑p.length : Int)) ([b.snd.snd.fst])) fun r7 =>
          bif !r7.fst then
            some ((3, ()))
          else
            bif decide (b.snd.fst ≥ 0) then
              Option.bind (ref_Inside_f nf ((↑p.length : Int)) ([b.snd.snd.fst, b.snd.snd.snd.fst])) fun r8 =>
              bif !r8.fst then
                some ((3, ()))
              else
                g2 (IntKind.i64.wrap (t47 + 1))
            else
              g2 (IntKind.i64.wrap (t47 + 1))
        else
          bif decide (b.snd.fst ≥ 0) then
            Option.bind (ref_Inside_f nf ((↑p.length : Int)) ([b.snd.snd.fst, b.snd.snd.snd.fst])) fun r9 =>
            bif !r9.fst then
              some ((3, ()))
            else
              g2 (IntKind.i64.wrap (t47 + 1))
          else
            g2 (IntKind.i64.wrap (t47 + 1))
      else
        bif decide (b.snd.fst ≥ 0) then
          Option.bind (ref_Inside_f nf ((↑p.length : Int)) ([b.snd.snd.fst, b.snd.snd.snd.fst])) fun r10 =>
          bif !r10.fst then
            some ((3, ()))
          else
            g2 (IntKind.i64.wrap (t47 + 1))
        else
          g2 (IntKind.i64.wrap (t47 + 1))
def ref_ProgCheck_p (nf : Nat) (l0 : Int → List (List (Int × Int × Int × Int × Int × Unit) × Int × Int × Int × Unit) → Int → Int → Option (Int × Unit)) (vars : Int) (p : List (List (Int × Int × Int × Int × Int × Unit) × Int × Int × Int × Unit)) : Option (Int × Unit) :=
  l0 vars p 0 0
def ref_ProgCheck_l4 (nf : Nat) (vars : Int) (p : List (List (Int × Int × Int × Int × Int × Unit) × Int × Int × Int × Unit)) (t47 : Int) (g2 : Int → Option (Int × Unit)) : Nat → List (Int × Int × Int × Int × Int × Unit) × Int × Int × Int × Unit → Int → Option (Int × Unit)
  | 0, _, _ => none
  | fu + 1, b, t54 => ref_ProgCheck_b4 nf  vars p t47 g2 (ref_ProgCheck_l4 nf vars p t47 g2 fu) b t54
def ref_ProgCheck_l2 (nf : Nat) (vars : Int) (p : List (List (Int × Int × Int × Int × Int × Unit) × Int × Int × Int × Unit)) : Nat → Int → Option (Int × Unit)
  | 0, _ => none
  | fu + 1, t47 => ref_ProgCheck_b2 nf (fun _ _ p2 v0 v1 => ref_ProgCheck_l4 nf vars p p2 (fun t47 => ref_ProgCheck_l2 nf vars p  fu t47) nf v0 v1) vars p  (ref_ProgCheck_l2 nf vars p  fu) t47
def ref_ProgCheck_l0 (nf : Nat) (vars : Int) (p : List (List (Int × Int × Int × Int × Int × Unit) × Int × Int × Int × Unit)) : Nat → Int → Int → Option (Int × Unit)
  | 0, _, _ => none
  | fu + 1, many, t15 => ref_ProgCheck_b0 nf (fun _ _ v0 => ref_ProgCheck_l2 nf vars p  nf v0) vars p  (ref_ProgCheck_l0 nf vars p  fu) many t15
def ref_ProgCheck_f (nf : Nat) (vars : Int) (p : List (List (Int × Int × Int × Int × Int × Unit) × Int × Int × Int × Unit)) : Option (Int × Unit) := ref_ProgCheck_p nf (fun p0 p1 v0 v1 => ref_ProgCheck_l0 nf p0 p1 nf v0 v1) vars p
noncomputable def ref_ProgCheck_L0 (nf : Nat) : LC (Int × Unit) := theL (findL tab (ref_ProgCheck_phi nf) (fun _ F => iter nf F) ref_ProgCheck_keep 0 0 (codeOf Try.f83) (fin tab [(Ty.int IntKind.i64, Md.bor false true)] (resL ([]) Try.f83)) (fun _ _ => none) (fin tab [(Ty.int IntKind.i64, Md.bor false true)] (resL ([]) Try.f83)))
def ref_ProgCheck_m0 (vars : Int) (p : List (List (Int × Int × Int × Int × Int × Unit) × Int × Int × Int × Unit)) (many : Int) (t15 : Int) : St := ⟨fresh, [(0, AV.v (Ty.int IntKind.i64) (Md.bor false true) vars), (1, AV.v (((Ty.int IntKind.i64).pair ((Ty.int IntKind.i64).pair ((Ty.int IntKind.i64).pair ((Ty.int IntKind.i64).pair ((Ty.int IntKind.i64).pair Ty.unit))))).sl.pair ((Ty.int IntKind.i64).pair ((Ty.int IntKind.i64).pair ((Ty.int IntKind.i64).pair Ty.unit)))).sl (Md.bor true false) p), (5, AV.v (Ty.int IntKind.i64) (Md.bor false true) many), (13, AV.v (((Ty.int IntKind.i64).pair ((Ty.int IntKind.i64).pair ((Ty.int IntKind.i64).pair ((Ty.int IntKind.i64).pair ((Ty.int IntKind.i64).pair Ty.unit))))).sl.pair ((Ty.int IntKind.i64).pair ((Ty.int IntKind.i64).pair ((Ty.int IntKind.i64).pair Ty.unit)))).sl (Md.bor true false) p), (14, AV.v (Ty.int IntKind.i64) (Md.bor false true) (↑p.length : Int)), (15, AV.v (Ty.int IntKind.i64) (Md.bor false true) t15)]⟩
noncomputable def ref_ProgCheck_L2 (nf : Nat) : LC (Int × Unit) := theL (findL tab (ref_ProgCheck_phi nf) (fun _ F => iter nf F) ref_ProgCheck_keep 2 0 (codeOf Try.f83) (fin tab [(Ty.int IntKind.i64, Md.bor false true)] (resL ([]) Try.f83)) (fun _ _ => none) (fin tab [(Ty.int IntKind.i64, Md.bor false true)] (resL ([]) Try.f83)))
def ref_ProgCheck_m2 (vars : Int) (p : List (List (Int × Int × Int × Int × Int × Unit) × Int × Int × Int × Unit)) (t47 : Int) : St := ⟨fresh, [(0, AV.v (Ty.int IntKind.i64) (Md.bor false true) vars), (1, AV.v (((Ty.int IntKind.i64).pair ((Ty.int IntKind.i64).pair ((Ty.int IntKind.i64).pair ((Ty.int IntKind.i64).pair ((Ty.int IntKind.i64).pair Ty.unit))))).sl.pair ((Ty.int IntKind.i64).pair ((Ty.int IntKind.i64).pair ((Ty.int IntKind.i64).pair Ty.unit)))).sl (Md.bor true false) p), (45, AV.v (((Ty.int IntKind.i64).pair ((Ty.int IntKind.i64).pair ((Ty.int IntKind.i64).pair ((Ty.int IntKind.i64).pair ((Ty.int IntKind.i64).pair Ty.unit))))).sl.pair ((Ty.int IntKind.i64).pair ((Ty.int IntKind.i64).pair ((Ty.int IntKind.i64).pair Ty.unit)))).sl (Md.bor true false) p), (46, AV.v (Ty.int IntKind.i64) (Md.bor false true) (↑p.length : Int)), (47, AV.v (Ty.int IntKind.i64) (Md.bor false true) t47)]⟩
noncomputable def ref_ProgCheck_L4 (nf : Nat) (G2 : St → Option (Int × Unit)) : LC (Int × Unit) := theL (findL tab (ref_ProgCheck_phi nf) (fun _ F => iter nf F) ref_ProgCheck_keep 4 2 (ref_ProgCheck_L2 nf ).c (fun st => norm (ref_ProgCheck_keep 2) st G2) (ref_ProgCheck_L2 nf ).Kx (ref_ProgCheck_L2 nf ).Kr)
def ref_ProgCheck_m4 (vars : Int) (p : List (List (Int × Int × Int × Int × Int × Unit) × Int × Int × Int × Unit)) (t47 : Int) (b : List (Int × Int × Int × Int × Int × Unit) × Int × Int × Int × Unit) (t54 : Int) : St := ⟨fresh, [(0, AV.v (Ty.int IntKind.i64) (Md.bor false true) vars), (1, AV.v (((Ty.int IntKind.i64).pair ((Ty.int IntKind.i64).pair ((Ty.int IntKind.i64).pair ((Ty.int IntKind.i64).pair ((Ty.int IntKind.i64).pair Ty.unit))))).sl.pair ((Ty.int IntKind.i64).pair ((Ty.int IntKind.i64).pair ((Ty.int IntKind.i64).pair Ty.unit)))).sl (Md.bor true false) p), (9, AV.box 9 500009 (((Ty.int IntKind.i64).pair ((Ty.int IntKind.i64).pair ((Ty.int IntKind.i64).pair ((Ty.int IntKind.i64).pair ((Ty.int IntKind.i64).pair Ty.unit))))).sl.pair ((Ty.int IntKind.i64).pair ((Ty.int IntKind.i64).pair ((Ty.int IntKind.i64).pair Ty.unit)))) (Md.bor true false) b), (45, AV.v (((Ty.int IntKind.i64).pair ((Ty.int IntKind.i64).pair ((Ty.int IntKind.i64).pair ((Ty.int IntKind.i64).pair ((Ty.int IntKind.i64).pair Ty.unit))))).sl.pair ((Ty.int IntKind.i64).pair ((Ty.int IntKind.i64).pair ((Ty.int IntKind.i64).pair Ty.unit)))).sl (Md.bor true false) p), (46, AV.v (Ty.int IntKind.i64) (Md.bor false true) (↑p.length : Int)), (47, AV.v (Ty.int IntKind.i64) (Md.bor false true) t47), (51, AV.pl 9 9 [Stp.dr, Stp.fld 0]), (52, AV.v ((Ty.int IntKind.i64).pair ((Ty.int IntKind.i64).pair ((Ty.int IntKind.i64).pair ((Ty.int IntKind.i64).pair ((Ty.int IntKind.i64).pair Ty.unit))))).sl (Md.bor true false) (p.getD t47.toNat ([], 0, 0, 0, ())).fst), (53, AV.v (Ty.int IntKind.i64) (Md.bor false true) (↑(List.length (p.getD t47.toNat ([], 0, 0, 0, ())).fst) : Int)), (54, AV.v (Ty.int IntKind.i64) (Md.bor false true) t54)]⟩
theorem ref_ProgCheck_h4 (nf : Nat) (G2 : St → Option (Int × Unit)) (vars : Int) (p : List (List (Int × Int × Int × Int × Int × Unit) × Int × Int × Int × Unit)) (t47 : Int) (fu : Nat) (b : List (Int × Int × Int × Int × Int × Unit) × Int × Int × Int × Unit) (t54 : Int) : iter (fu + 1) (LC.F tab (ref_ProgCheck_phi nf) (fun _ F => iter nf F) ref_ProgCheck_keep 4 (ref_ProgCheck_L4 nf G2)) (ref_ProgCheck_m4 vars p t47 b t54) = ref_ProgCheck_b4 nf  vars p t47 (fun t47 => G2 (ref_ProgCheck_m2 vars p t47)) (fun b t54 => iter fu (LC.F tab (ref_ProgCheck_phi nf) (fun _ F => iter nf F) ref_ProgCheck_keep 4 (ref_ProgCheck_L4 nf G2)) (ref_ProgCheck_m4 vars p t47 b t54)) b t54 := by kernel_rfl
theorem ref_ProgCheck_e4 (nf : Nat) (G2 : St → Option (Int × Unit)) (vars : Int) (p : List (List (Int × Int × Int × Int × Int × Unit) × Int × Int × Int × Unit)) (t47 : Int) : ∀ (fu : Nat) (b : List (Int × Int × Int × Int × Int × Unit) × Int × Int × Int × Unit) (t54 : Int), iter fu (LC.F tab (ref_ProgCheck_phi nf) (fun _ F => iter nf F) ref_ProgCheck_keep 4 (ref_ProgCheck_L4 nf G2)) (ref_ProgCheck_m4 vars p t47 b t54) = ref_ProgCheck_l4 nf vars p t47 (fun t47 => G2 (ref_ProgCheck_m2 vars p t47)) fu b t54 := by
  intro fu
  induction fu with
  | zero => intros; rfl
  | succ fu ih =>
    intro b t54
    rw [ref_ProgCheck_h4 nf G2 vars p t47 fu b t54]
    simp only [ih]
    rfl
theorem ref_ProgCheck_h2 (nf : Nat)  (vars : Int) (p : List (List (Int × Int × Int × Int × Int × Unit) × Int × Int × Int × Unit)) (fu : Nat) (t47 : Int) : iter (fu + 1) (LC.F tab (ref_ProgCheck_phi nf) (fun _ F => iter nf F) ref_ProgCheck_keep 2 (ref_ProgCheck_L2 nf )) (ref_ProgCheck_m2 vars p t47) = ref_ProgCheck_b2 nf (fun _ _ p2 v0 v1 => iter nf (LC.F tab (ref_ProgCheck_phi nf) (fun _ F => iter nf F) ref_ProgCheck_keep 4 (ref_ProgCheck_L4 nf (iter fu (LC.F tab (ref_ProgCheck_phi nf) (fun _ F => iter nf F) ref_ProgCheck_keep 2 (ref_ProgCheck_L2 nf ))))) (ref_ProgCheck_m4 vars p p2 v0 v1)) vars p  (fun t47 => iter fu (LC.F tab (ref_ProgCheck_phi nf) (fun _ F => iter nf F) ref_ProgCheck_keep 2 (ref_ProgCheck_L2 nf )) (ref_ProgCheck_m2 vars p t47)) t47 := by kernel_rfl
theorem ref_ProgCheck_e2 (nf : Nat)  (vars : Int) (p : List (List (Int × Int × Int × Int × Int × Unit) × Int × Int × Int × Unit)) : ∀ (fu : Nat) (t47 : Int), iter fu (LC.F tab (ref_ProgCheck_phi nf) (fun _ F => iter nf F) ref_ProgCheck_keep 2 (ref_ProgCheck_L2 nf )) (ref_ProgCheck_m2 vars p t47) = ref_ProgCheck_l2 nf vars p  fu t47 := by
  intro fu
  induction fu with
  | zero => intros; rfl
  | succ fu ih =>
    intro t47
    rw [ref_ProgCheck_h2 nf  vars p fu t47]
    simp only [ih, ref_ProgCheck_e4]
    rfl
theorem ref_ProgCheck_h0 (nf : Nat)  (vars : Int) (p : List (List (Int × Int × Int × Int × Int × Unit) × Int × Int × Int × Unit)) (fu : Nat) (many : Int) (t15 : Int) : iter (fu + 1) (LC.F tab (ref_ProgCheck_phi nf) (fun _ F => iter nf F) ref_ProgCheck_keep 0 (ref_ProgCheck_L0 nf )) (ref_ProgCheck_m0 vars p many t15) = ref_ProgCheck_b0 nf (fun _ _ v0 => iter nf (LC.F tab (ref_ProgCheck_phi nf) (fun _ F => iter nf F) ref_ProgCheck_keep 2 (ref_ProgCheck_L2 nf )) (ref_ProgCheck_m2 vars p v0)) vars p  (fun many t15 => iter fu (LC.F tab (ref_ProgCheck_phi nf) (fun _ F => iter nf F) ref_ProgCheck_keep 0 (ref_ProgCheck_L0 nf )) (ref_ProgCheck_m0 vars p many t15)) many t15 := by kernel_rfl
theorem ref_ProgCheck_e0 (nf : Nat)  (vars : Int) (p : List (List (Int × Int × Int × Int × Int × Unit) × Int × Int × Int × Unit)) : ∀ (fu : Nat) (many : Int) (t15 : Int), iter fu (LC.F tab (ref_ProgCheck_phi nf) (fun _ F => iter nf F) ref_ProgCheck_keep 0 (ref_ProgCheck_L0 nf )) (ref_ProgCheck_m0 vars p many t15) = ref_ProgCheck_l0 nf vars p  fu many t15 := by
  intro fu
  induction fu with
  | zero => intros; rfl
  | succ fu ih =>
    intro many t15
    rw [ref_ProgCheck_h0 nf  vars p fu many t15]
    simp only [ih, ref_ProgCheck_e2]
    rfl
theorem ref_ProgCheck_eq (nf : Nat) (vars : Int) (p : List (List (Int × Int × Int × Int × Int × Unit) × Int × Int × Int × Unit)) : runF tab (ref_ProgCheck_phi nf) ref_ProgCheck_keep nf [PT.val (Ty.int IntKind.i64) (Md.bor true false), PT.val (((Ty.int IntKind.i64).pair ((Ty.int IntKind.i64).pair ((Ty.int IntKind.i64).pair ((Ty.int IntKind.i64).pair ((Ty.int IntKind.i64).pair Ty.unit))))).sl.pair ((Ty.int IntKind.i64).pair ((Ty.int IntKind.i64).pair ((Ty.int IntKind.i64).pair Ty.unit)))).sl (Md.bor true false)] [(Ty.int IntKind.i64, Md.bor false true)] (resL ([]) Try.f83) (codeOf Try.f83) ⟨vars, p, ()⟩ = ref_ProgCheck_f nf vars p := by
  have h : runF tab (ref_ProgCheck_phi nf) ref_ProgCheck_keep nf [PT.val (Ty.int IntKind.i64) (Md.bor true false), PT.val (((Ty.int IntKind.i64).pair ((Ty.int IntKind.i64).pair ((Ty.int IntKind.i64).pair ((Ty.int IntKind.i64).pair ((Ty.int IntKind.i64).pair Ty.unit))))).sl.pair ((Ty.int IntKind.i64).pair ((Ty.int IntKind.i64).pair ((Ty.int IntKind.i64).pair Ty.unit)))).sl (Md.bor true false)] [(Ty.int IntKind.i64, Md.bor false true)] (resL ([]) Try.f83) (codeOf Try.f83) ⟨vars, p, ()⟩ = ref_ProgCheck_p nf (fun p0 p1 v0 v1 => iter nf (LC.F tab (ref_ProgCheck_phi nf) (fun _ F => iter nf F) ref_ProgCheck_keep 0 (ref_ProgCheck_L0 nf)) (ref_ProgCheck_m0 p0 p1 v0 v1)) vars p := by kernel_rfl
  rw [h]
  simp only [ref_ProgCheck_e0]
  rfl
def ref_ProgCheck_F (nf : Nat) (x : denPs [.val (.int .i64) (.bor true false), .val (.sl (.pair (.sl (.pair (.int .i64) (.pair (.int .i64) (.pair (.int .i64) (.pair (.int .i64) (.pair (.int .i64) (.unit))))))) (.pair (.int .i64) (.pair (.int .i64) (.pair (.int .i64) (.unit)))))) (.bor true false)]) : Option (denL [(.int .i64, .bor false true)]) := ref_ProgCheck_f nf x.1 x.2.1
def ref_ProgCheck_C (nf : Nat) : Contract := ⟨[.val (.int .i64) (.bor true false), .val (.sl (.pair (.sl (.pair (.int .i64) (.pair (.int .i64) (.pair (.int .i64) (.pair (.int .i64) (.pair (.int .i64) (.unit))))))) (.pair (.int .i64) (.pair (.int .i64) (.pair (.int .i64) (.unit)))))) (.bor true false)], [(.int .i64, .bor false true)], ref_ProgCheck_F nf, []⟩
theorem ref_ProgCheck_ok : FnOK Try.prog 83 := ⟨Try.f83, codeOf Try.f83, Try.func83, by kernel_rfl, by kernel_rfl⟩
theorem ref_ProgCheck_holds (nf : Nat) : Contract.Holds Try.prog 83 (ref_ProgCheck_C nf) :=
  fn_holds (Φ := ref_ProgCheck_phi nf) (keep := ref_ProgCheck_keep) (n := nf) ⟨tabs.1, tabs.2, (ctx_cons ref_Inside_ok (ref_Inside_holds nf) (ctx_cons ref_StepCheck_ok (ref_StepCheck_holds nf) ctx_nil)), mixed, bk_ok bkls rfl⟩ (fn := Try.f83) ⟨Try.func83, by kernel_rfl, by kernel_rfl, by kernel_rfl⟩ (fun x => ref_ProgCheck_eq nf x.1 x.2.1)

/-! codemason codemasonlaw.codeCode -/
def law_codeCode_tab : Tab := ⟨lookT [(2, .int .i64), (3, .int .i64), (4, .bool), (5, .int .u8), (6, .int .u8), (7, .pair (.int .i64) (.pair (.int .i64) (.pair (.bool) (.pair (.int .u8) (.unit))))), (8, .pair (.int .i64) (.pair (.int .i64) (.pair (.bool) (.pair (.int .u8) (.unit))))), (12, .int .u64), (21, .int .i32), (22, .sl (.pair (.int .i64) (.pair (.int .i64) (.pair (.int .i64) (.pair (.int .i64) (.unit)))))), (23, .int .i64), (26, .int .u32), (29, .sl (.int .i64)), (31, .pair (.int .i64) (.pair (.int .i64) (.pair (.int .i64) (.pair (.int .i64) (.unit))))), (32, .pair (.int .i64) (.pair (.int .i64) (.pair (.int .i64) (.pair (.int .i64) (.unit))))), (33, .int .u64), (44, .sl (.pair (.int .i64) (.pair (.int .i64) (.pair (.int .i64) (.pair (.int .i64) (.pair (.int .i64) (.unit))))))), (55, .sl (.pair (.int .i64) (.pair (.int .i64) (.unit)))), (65, .pair (.int .i64) (.pair (.int .i64) (.unit))), (66, .pair (.int .i64) (.pair (.int .i64) (.unit))), (86, .sl (.pair (.int .i64) (.pair (.int .i64) (.pair (.int .i64) (.pair (.int .i64) (.unit)))))), (94, .pair (.int .i64) (.pair (.int .i64) (.pair (.int .i64) (.pair (.int .i64) (.unit))))), (95, .pair (.int .i64) (.pair (.int .i64) (.pair (.int .i64) (.pair (.int .i64) (.unit))))), (96, .sl (.bool)), (101, .pair (.int .i64) (.pair (.int .i64) (.pair (.int .i64) (.pair (.int .i64) (.pair (.int .i64) (.unit)))))), (102, .pair (.int .i64) (.pair (.int .i64) (.pair (.int .i64) (.pair (.int .i64) (.pair (.int .i64) (.unit)))))), (104, .pair (.sl (.pair (.int .i64) (.pair (.int .i64) (.pair (.int .i64) (.pair (.int .i64) (.unit)))))) (.pair (.sl (.int .i64)) (.pair (.sl (.pair (.int .i64) (.pair (.int .i64) (.pair (.int .i64) (.pair (.int .i64) (.pair (.int .i64) (.unit))))))) (.unit)))), (105, .pair (.sl (.pair (.int .i64) (.pair (.int .i64) (.pair (.int .i64) (.pair (.int .i64) (.unit)))))) (.pair (.sl (.int .i64)) (.pair (.sl (.pair (.int .i64) (.pair (.int .i64) (.pair (.int .i64) (.pair (.int .i64) (.pair (.int .i64) (.unit))))))) (.unit)))), (114, .mp (.pair (.int .i64) (.pair (.int .i64) (.pair (.int .i64) (.pair (.int .i64) (.unit))))) (.int .i64)), (115, .pair (.sl (.pair (.int .i64) (.pair (.int .i64) (.pair (.int .i64) (.pair (.int .i64) (.unit)))))) (.pair (.mp (.pair (.int .i64) (.pair (.int .i64) (.pair (.int .i64) (.pair (.int .i64) (.unit))))) (.int .i64)) (.unit))), (116, .pair (.sl (.pair (.int .i64) (.pair (.int .i64) (.pair (.int .i64) (.pair (.int .i64) (.unit)))))) (.pair (.mp (.pair (.int .i64) (.pair (.int .i64) (.pair (.int .i64) (.pair (.int .i64) (.unit))))) (.int .i64)) (.unit))), (119, .pair (.sl (.pair (.int .i64) (.pair (.int .i64) (.pair (.int .i64) (.pair (.int .i64) (.pair (.int .i64) (.unit))))))) (.pair (.int .i64) (.pair (.int .i64) (.pair (.int .i64) (.unit))))), (120, .pair (.sl (.pair (.int .i64) (.pair (.int .i64) (.pair (.int .i64) (.pair (.int .i64) (.pair (.int .i64) (.unit))))))) (.pair (.int .i64) (.pair (.int .i64) (.pair (.int .i64) (.unit))))), (121, .sl (.pair (.sl (.pair (.int .i64) (.pair (.int .i64) (.pair (.int .i64) (.pair (.int .i64) (.pair (.int .i64) (.unit))))))) (.pair (.int .i64) (.pair (.int .i64) (.pair (.int .i64) (.unit)))))), (142, .int .u8), (143, .int .u8), (146, .int .i32), (147, .int .i32)], lookM [(2, .bor false true), (3, .bor false true), (4, .bor false true), (5, .bor false true), (6, .bor false true), (7, .bor false true), (8, .bor false true), (12, .bor false true), (21, .bor false true), (22, .own false (.bor false false)), (23, .bor false true), (26, .bor false true), (29, .own false (.bor false false)), (31, .bor false true), (32, .bor false true), (33, .bor false true), (44, .own false (.bor false false)), (55, .own false (.bor false false)), (65, .bor false true), (66, .bor false true), (86, .own false (.bor false false)), (94, .bor false true), (95, .bor false true), (96, .own false (.bor false false)), (101, .bor false true), (102, .bor false true), (104, .bor true false), (105, .pair (.bor false false) (.pair (.bor false false) (.pair (.own false (.bor false false)) (.bor false false)))), (114, .own false (.bor false false)), (115, .bor true false), (116, .pair (.own false (.bor false false)) (.pair (.own true (.bor false false)) (.bor false false))), (119, .bor true false), (120, .bor true false), (121, .own false (.pair (.bor true false) (.bor false true))), (142, .bor false true), (143, .bor false true), (146, .bor false true), (147, .bor false true)], hasT [138], hasT [9, 10, 11], fun _ => none, lookB bkl⟩
theorem law_codeCode_tabs : TabOK Try.prog law_codeCode_tab ∧ EqOK Try.prog law_codeCode_tab := tab_ok (by kernel_rfl) (by kernel_rfl)
def law_codeCode_phi (nf : Nat) : Nat → Option Contract := lookC [(83, ref_ProgCheck_C nf)]
def law_codeCode_keep : Nat → List Nat := lookK []
def law_codeCode_p (nf : Nat)  (vars : Int) (code' : List (Int × Int × Int × Int × Int × Unit)) : Option (Int × Unit) :=
  Option.bind (ref_ProgCheck_f nf vars ([(code', (-1), (-1), 0, ())])) fun r =>
  some ((r.fst, ()))
def law_codeCode_f (nf : Nat) (vars : Int) (code' : List (Int × Int × Int × Int × Int × Unit)) : Option (Int × Unit) := law_codeCode_p nf  vars code'
theorem law_codeCode_eq (nf : Nat) (vars : Int) (code' : List (Int × Int × Int × Int × Int × Unit)) : runF law_codeCode_tab (law_codeCode_phi nf) law_codeCode_keep nf [PT.val (Ty.int IntKind.i64) (Md.bor true false), PT.val ((Ty.int IntKind.i64).pair ((Ty.int IntKind.i64).pair ((Ty.int IntKind.i64).pair ((Ty.int IntKind.i64).pair ((Ty.int IntKind.i64).pair Ty.unit))))).sl (Md.bor true false)] [(Ty.int IntKind.i64, Md.bor false true)] (resL ([]) Try.f55) (codeOf Try.f55) ⟨vars, code', ()⟩ = law_codeCode_f nf vars code' := by
  have h : runF law_codeCode_tab (law_codeCode_phi nf) law_codeCode_keep nf [PT.val (Ty.int IntKind.i64) (Md.bor true false), PT.val ((Ty.int IntKind.i64).pair ((Ty.int IntKind.i64).pair ((Ty.int IntKind.i64).pair ((Ty.int IntKind.i64).pair ((Ty.int IntKind.i64).pair Ty.unit))))).sl (Md.bor true false)] [(Ty.int IntKind.i64, Md.bor false true)] (resL ([]) Try.f55) (codeOf Try.f55) ⟨vars, code', ()⟩ = law_codeCode_p nf  vars code' := by kernel_rfl
  exact h
def law_codeCode_F (nf : Nat) (x : denPs [.val (.int .i64) (.bor true false), .val (.sl (.pair (.int .i64) (.pair (.int .i64) (.pair (.int .i64) (.pair (.int .i64) (.pair (.int .i64) (.unit))))))) (.bor true false)]) : Option (denL [(.int .i64, .bor false true)]) := law_codeCode_f nf x.1 x.2.1
def law_codeCode_C (nf : Nat) : Contract := ⟨[.val (.int .i64) (.bor true false), .val (.sl (.pair (.int .i64) (.pair (.int .i64) (.pair (.int .i64) (.pair (.int .i64) (.pair (.int .i64) (.unit))))))) (.bor true false)], [(.int .i64, .bor false true)], law_codeCode_F nf, []⟩
theorem law_codeCode_ok : FnOK Try.prog 55 := ⟨Try.f55, codeOf Try.f55, Try.func55, by kernel_rfl, by kernel_rfl⟩
theorem law_codeCode_holds (nf : Nat) : Contract.Holds Try.prog 55 (law_codeCode_C nf) :=
  fn_holds (Φ := law_codeCode_phi nf) (keep := law_codeCode_keep) (n := nf) ⟨law_codeCode_tabs.1, law_codeCode_tabs.2, (ctx_cons ref_ProgCheck_ok (ref_ProgCheck_holds nf) ctx_nil), mixed, bk_ok bkls rfl⟩ (fn := Try.f55) ⟨Try.func55, by kernel_rfl, by kernel_rfl, by kernel_rfl⟩ (fun x => law_codeCode_eq nf x.1 x.2.1)

/-! codemason codemasonref.Doing -/
def ref_Doing_phi (nf : Nat) : Nat → Option Contract := lookC [(68, ref_Op_C nf)]
def ref_Doing_keep : Nat → List Nat := lookK [(0, [0, 1, 10, 11, 12, 13])]
def ref_Doing_b0 (nf : Nat) (code' : List (Int × Int × Int × Int × Int × Unit)) (g0 : List Int → Int → Option (List Int × Unit)) (v2 : List Int) (t13 : Int) : Option (List Int × Unit) :=
  bif decide (t13 < (↑code'.length : Int)) then
    bif inb t13 code'.length then
      bif (code'.getD t13.toNat (0, 0, 0, 0, 0, ())).fst == 2 then
        bif inb (code'.getD t13.toNat (0, 0, 0, 0, 0, ())).snd.snd.snd.snd.fst v2.length then
          bif decide ((code'.getD t13.toNat (0, 0, 0, 0, 0, ())).fst ≥ 3) then
            bif inb (code'.getD t13.toNat (0, 0, 0, 0, 0, ())).snd.snd.fst v2.length then
              bif inb (code'.getD t13.toNat (0, 0, 0, 0, 0, ())).snd.snd.snd.fst v2.length then
                Option.bind (ref_Op_f nf ((code'.getD t13.toNat (0, 0, 0, 0, 0, ())).fst) (v2.getD (Int.toNat (code'.getD t13.toNat (0, 0, 0, 0, 0, ())).snd.snd.fst) 0) (v2.getD (Int.toNat (code'.getD t13.toNat (0, 0, 0, 0, 0, ())).snd.snd.snd.fst) 0)) fun r =>
                bif inb (code'.getD t13.toNat (0, 0, 0, 0, 0, ())).snd.fst v2.length then
                  g0 (v2.set (Int.toNat (code'.getD t13.toNat (0, 0, 0, 0, 0, ())).snd.fst) r.fst) (IntKind.i64.wrap (t13 + 1))
                else
                  none
              else
                none
            else
              none
          else
            bif inb (code'.getD t13.toNat (0, 0, 0, 0, 0, ())).snd.fst v2.length then
              g0 (v2.set (Int.toNat (code'.getD t13.toNat (0, 0, 0, 0, 0, ())).snd.fst) (v2.getD (Int.toNat (code'.getD t13.toNat (0, 0, 0, 0, 0, ())).snd.snd.snd.snd.fst) 0)) (IntKind.i64.wrap (t13 + 1))
            else
              none
        else
          none
      else
        bif decide ((code'.getD t13.toNat (0, 0, 0, 0, 0, ())).fst ≥ 3) then
          bif inb (code'.getD t13.toNat (0, 0, 0, 0, 0, ())).snd.snd.fst v2.length then
            bif inb (code'.getD t13.toNat (0, 0, 0, 0, 0, ())).snd.snd.snd.fst v2.length then
              Option.bind (ref_Op_f nf ((code'.getD t13.toNat (0, 0, 0, 0, 0, ())).fst) (v2.getD (Int.toNat (code'.getD t13.toNat (0, 0, 0, 0, 0, ())).snd.snd.fst) 0) (v2.getD (Int.toNat (code'.getD t13.toNat (0, 0, 0, 0, 0, ())).snd.snd.snd.fst) 0)) fun r2 =>
              bif inb (code'.getD t13.toNat (0, 0, 0, 0, 0, ())).snd.fst v2.length then
                g0 (v2.set (Int.toNat (code'.getD t13.toNat (0, 0, 0, 0, 0, ())).snd.fst) r2.fst) (IntKind.i64.wrap (t13 + 1))
              else
                none
            else
              none
          else
            none
        else
          bif inb (code'.getD t13.toNat (0, 0, 0, 0, 0, ())).snd.fst v2.length then
            g0 (v2.set (Int.toNat (code'.getD t13.toNat (0, 0, 0, 0, 0, ())).snd.fst) (code'.getD t13.toNat (0, 0, 0, 0, 0, ())).snd.snd.snd.snd.fst) (IntKind.i64.wrap (t13 + 1))
          else
            none
    else
      none
  else
    some ((v2, ()))
def ref_Doing_p (nf : Nat) (l0 : List (Int × Int × Int × Int × Int × Unit) → List Int → Int → Option (List Int × Unit)) (code' : List (Int × Int × Int × Int × Int × Unit)) (v : List Int) : Option (List Int × Unit) :=
  bif bimp false !v.isEmpty && ((List.length ([] : List Unit)) + v.length).ble lim then
    l0 code' ([] ++ v) 0
  else
    none
def ref_Doing_l0 (nf : Nat) (code' : List (Int × Int × Int × Int × Int × Unit)) : Nat → List Int → Int → Option (List Int × Unit)
  | 0, _, _ => none
  | fu + 1, v2, t13 => ref_Doing_b0 nf  code'  (ref_Doing_l0 nf code'  fu) v2 t13
def ref_Doing_f (nf : Nat) (code' : List (Int × Int × Int × Int × Int × Unit)) (v : List Int) : Option (List Int × Unit) := ref_Doing_p nf (fun p0 v0 v1 => ref_Doing_l0 nf p0 nf v0 v1) code' v
noncomputable def ref_Doing_L0 (nf : Nat) : LC (List Int × Unit) := theL (findL tab (ref_Doing_phi nf) (fun _ F => iter nf F) ref_Doing_keep 0 0 (codeOf Try.f57) (fin tab [((Ty.int IntKind.i64).sl, Md.own false (Md.bor false false))] (resL ([]) Try.f57)) (fun _ _ => none) (fin tab [((Ty.int IntKind.i64).sl, Md.own false (Md.bor false false))] (resL ([]) Try.f57)))
def ref_Doing_m0 (code' : List (Int × Int × Int × Int × Int × Unit)) (v2 : List Int) (t13 : Int) : St := ⟨fresh, [(0, AV.v ((Ty.int IntKind.i64).pair ((Ty.int IntKind.i64).pair ((Ty.int IntKind.i64).pair ((Ty.int IntKind.i64).pair ((Ty.int IntKind.i64).pair Ty.unit))))).sl (Md.bor true false) code'), (1, AV.ow 500001 (Ty.int IntKind.i64).sl (Md.own false (Md.bor false false)) v2), (10, AV.dead), (11, AV.v ((Ty.int IntKind.i64).pair ((Ty.int IntKind.i64).pair ((Ty.int IntKind.i64).pair ((Ty.int IntKind.i64).pair ((Ty.int IntKind.i64).pair Ty.unit))))).sl (Md.bor true false) code'), (12, AV.v (Ty.int IntKind.i64) (Md.bor false true) (↑code'.length : Int)), (13, AV.v (Ty.int IntKind.i64) (Md.bor false true) t13)]⟩
theorem ref_Doing_h0 (nf : Nat)  (code' : List (Int × Int × Int × Int × Int × Unit)) (fu : Nat) (v2 : List Int) (t13 : Int) : iter (fu + 1) (LC.F tab (ref_Doing_phi nf) (fun _ F => iter nf F) ref_Doing_keep 0 (ref_Doing_L0 nf )) (ref_Doing_m0 code' v2 t13) = ref_Doing_b0 nf  code'  (fun v2 t13 => iter fu (LC.F tab (ref_Doing_phi nf) (fun _ F => iter nf F) ref_Doing_keep 0 (ref_Doing_L0 nf )) (ref_Doing_m0 code' v2 t13)) v2 t13 := by kernel_rfl
theorem ref_Doing_e0 (nf : Nat)  (code' : List (Int × Int × Int × Int × Int × Unit)) : ∀ (fu : Nat) (v2 : List Int) (t13 : Int), iter fu (LC.F tab (ref_Doing_phi nf) (fun _ F => iter nf F) ref_Doing_keep 0 (ref_Doing_L0 nf )) (ref_Doing_m0 code' v2 t13) = ref_Doing_l0 nf code'  fu v2 t13 := by
  intro fu
  induction fu with
  | zero => intros; rfl
  | succ fu ih =>
    intro v2 t13
    rw [ref_Doing_h0 nf  code' fu v2 t13]
    simp only [ih]
    rfl
theorem ref_Doing_eq (nf : Nat) (code' : List (Int × Int × Int × Int × Int × Unit)) (v : List Int) : runF tab (ref_Doing_phi nf) ref_Doing_keep nf [PT.val ((Ty.int IntKind.i64).pair ((Ty.int IntKind.i64).pair ((Ty.int IntKind.i64).pair ((Ty.int IntKind.i64).pair ((Ty.int IntKind.i64).pair Ty.unit))))).sl (Md.bor true false), PT.val (Ty.int IntKind.i64).sl (Md.bor true false)] [((Ty.int IntKind.i64).sl, Md.own false (Md.bor false false))] (resL ([]) Try.f57) (codeOf Try.f57) ⟨code', v, ()⟩ = ref_Doing_f nf code' v := by
  have h : runF tab (ref_Doing_phi nf) ref_Doing_keep nf [PT.val ((Ty.int IntKind.i64).pair ((Ty.int IntKind.i64).pair ((Ty.int IntKind.i64).pair ((Ty.int IntKind.i64).pair ((Ty.int IntKind.i64).pair Ty.unit))))).sl (Md.bor true false), PT.val (Ty.int IntKind.i64).sl (Md.bor true false)] [((Ty.int IntKind.i64).sl, Md.own false (Md.bor false false))] (resL ([]) Try.f57) (codeOf Try.f57) ⟨code', v, ()⟩ = ref_Doing_p nf (fun p0 v0 v1 => iter nf (LC.F tab (ref_Doing_phi nf) (fun _ F => iter nf F) ref_Doing_keep 0 (ref_Doing_L0 nf)) (ref_Doing_m0 p0 v0 v1)) code' v := by kernel_rfl
  rw [h]
  simp only [ref_Doing_e0]
  rfl
def ref_Doing_F (nf : Nat) (x : denPs [.val (.sl (.pair (.int .i64) (.pair (.int .i64) (.pair (.int .i64) (.pair (.int .i64) (.pair (.int .i64) (.unit))))))) (.bor true false), .val (.sl (.int .i64)) (.bor true false)]) : Option (denL [(.sl (.int .i64), .own false (.bor false false))]) := ref_Doing_f nf x.1 x.2.1
def ref_Doing_C (nf : Nat) : Contract := ⟨[.val (.sl (.pair (.int .i64) (.pair (.int .i64) (.pair (.int .i64) (.pair (.int .i64) (.pair (.int .i64) (.unit))))))) (.bor true false), .val (.sl (.int .i64)) (.bor true false)], [(.sl (.int .i64), .own false (.bor false false))], ref_Doing_F nf, []⟩
theorem ref_Doing_ok : FnOK Try.prog 57 := ⟨Try.f57, codeOf Try.f57, Try.func57, by kernel_rfl, by kernel_rfl⟩
theorem ref_Doing_holds (nf : Nat) : Contract.Holds Try.prog 57 (ref_Doing_C nf) :=
  fn_holds (Φ := ref_Doing_phi nf) (keep := ref_Doing_keep) (n := nf) ⟨tabs.1, tabs.2, (ctx_cons ref_Op_ok (ref_Op_holds nf) ctx_nil), mixed, bk_ok bkls rfl⟩ (fn := Try.f57) ⟨Try.func57, by kernel_rfl, by kernel_rfl, by kernel_rfl⟩ (fun x => ref_Doing_eq nf x.1 x.2.1)

/-! codemason codemasonlaw.WeakAheads -/
def law_WeakAheads_phi (nf : Nat) : Nat → Option Contract := lookC [(21, ref_TermsCheck_C nf), (26, ref_Term_C nf), (28, ref_HaveCheck_C nf), (50, ref_Inside_C nf), (54, weak_Ahead_C nf), (55, law_codeCode_C nf), (56, ref_Value_C nf), (57, ref_Doing_C nf)]
def law_WeakAheads_keep : Nat → List Nat := lookK [(0, [0, 1, 2, 3, 9, 14, 18, 19, 46, 47, 48])]
def law_WeakAheads_b0 (nf : Nat) (vars : Int) (code' : List (Int × Int × Int × Int × Int × Unit)) (post : List (Int × Int × Int × Int × Unit)) (have' : List Int) (r : List (Int × Int × Int × Int × Unit) × Int × Unit) (g0 : List (Int × Int × Int × Int × Unit) → Int → Option (Bool × Unit)) (l' : List (Int × Int × Int × Int × Unit)) (t48 : Int) : Option (Bool × Unit) :=
  bif decide (t48 < (↑(List.length r.fst) : Int)) then
    bif inb t48 l'.length then
      bif decide ((l'.getD t48.toNat (0, 0, 0, 0, ())).fst < 1) then
        some ((false, ()))
      else
        bif decide ((l'.getD t48.toNat (0, 0, 0, 0, ())).fst > 6) then
          some ((false, ()))
        else
          bif (l'.getD t48.toNat (0, 0, 0, 0, ())).fst == 1 then
            Option.bind (ref_Value_f nf ((l'.getD t48.toNat (0, 0, 0, 0, ())).snd.snd.snd.fst)) fun r4 =>
            bif !r4.fst then
              some ((false, ()))
            else
              bif (l'.getD t48.toNat (0, 0, 0, 0, ())).fst == 2 then
                Option.bind (ref_Inside_f nf vars ([(l'.getD t48.toNat (0, 0, 0, 0, ())).snd.snd.snd.fst])) fun r5 =>
                bif !r5.fst then
                  some ((false, ()))
                else
                  bif decide ((l'.getD t48.toNat (0, 0, 0, 0, ())).fst ≥ 3) then
                    Option.bind (ref_Inside_f nf t48 ([(l'.getD t48.toNat (0, 0, 0, 0, ())).snd.fst, (l'.getD t48.toNat (0, 0, 0, 0, ())).snd.snd.fst])) fun r6 =>
                    bif !r6.fst then
                      some ((false, ()))
                    else
                      g0 l' (IntKind.i64.wrap (t48 + 1))
                  else
                    g0 l' (IntKind.i64.wrap (t48 + 1))
              else
                bif decide ((l'.getD t48.toNat (0, 0, 0, 0, ())).fst ≥ 3) then
                  Option.bind (ref_Inside_f nf t48 ([(l'.getD t48.toNat (0, 0, 0, 0, ())).snd.fst, (l'.getD t48.toNat (0, 0, 0, 0, ())).snd.snd.fst])) fun r7 =>
                  bif !r7.fst then
                    some ((false, ()))
                  else
                    g0 l' (IntKind.i64.wrap (t48 + 1))
                else
                  g0 l' (IntKind.i64.wrap (t48 + 1))
          else
            bif (l'.getD t48.toNat (0, 0, 0, 0, ())).fst == 2 then
              Option.bind (ref_Inside_f nf vars ([(l'.getD t48.toNat (0, 0, 0, 0, ())).snd.snd.snd.fst])) fun r8 =>
              bif !r8.fst then
                some ((false, ()))
              else
                bif decide ((l'.getD t48.toNat (0, 0, 0, 0, ())).fst ≥ 3) then
                  Option.bind (ref_Inside_f nf t48 ([(l'.getD t48.toNat (0, 0, 0, 0, ())).snd.fst, (l'.getD t48.toNat (0, 0, 0, 0, ())).snd.snd.fst])) fun r9 =>
                  bif !r9.fst then
                    some ((false, ()))
                  else
                    g0 l' (IntKind.i64.wrap (t48 + 1))
                else
                  g0 l' (IntKind.i64.wrap (t48 + 1))
            else
              bif decide ((l'.getD t48.toNat (0, 0, 0, 0, ())).fst ≥ 3) then
                Option.bind (ref_Inside_f nf t48 ([(l'.getD t48.toNat (0, 0, 0, 0, ())).snd.fst, (l'.getD t48.toNat (0, 0, 0, 0, ())).snd.snd.fst])) fun r10 =>
                bif !r10.fst then
                  some ((false, ()))
                else
                  g0 l' (IntKind.i64.wrap (t48 + 1))
              else
                g0 l' (IntKind.i64.wrap (t48 + 1))
    else
      none
  else
    Option.bind (ref_HaveCheck_f nf vars have') fun r11 =>
    bif r11.fst != 0 then
      some ((true, ()))
    else
      Option.bind (ref_Term_f nf l' have') fun r12 =>
      Option.bind (ref_Doing_f nf code' have') fun r13 =>
      Option.bind (ref_Term_f nf post r13.fst) fun r14 =>
      some ((r12.fst == r14.fst, ()))
def law_WeakAheads_p (nf : Nat) (l0 : Int → List (Int × Int × Int × Int × Int × Unit) → List (Int × Int × Int × Int × Unit) → List Int → List (Int × Int × Int × Int × Unit) × Int × Unit → List (Int × Int × Int × Int × Unit) → Int → Option (Bool × Unit)) (vars : Int) (code' : List (Int × Int × Int × Int × Int × Unit)) (post : List (Int × Int × Int × Int × Unit)) (have' : List Int) : Option (Bool × Unit) :=
  Option.bind (weak_Ahead_f nf vars code' post) fun r =>
  Option.bind (law_codeCode_f nf vars code') fun r2 =>
  bif r2.fst == 0 then
    Option.bind (ref_TermsCheck_f nf vars post) fun r3 =>
    bif r3.fst != 0 then
      bif r.snd.fst == r3.fst then
        some (((↑(List.length r.fst) : Int) == 0, ()))
      else
        some ((false, ()))
    else
      bif r.snd.fst != 0 then
        some ((false, ()))
      else
        bif (↑(List.length r.fst) : Int) == 0 then
          some ((false, ()))
        else
          l0 vars code' post have' r r.fst 0
  else
    bif r2.fst != 0 then
      bif r.snd.fst == r2.fst then
        some (((↑(List.length r.fst) : Int) == 0, ()))
      else
        some ((false, ()))
    else
      bif r.snd.fst != 0 then
        some ((false, ()))
      else
        bif (↑(List.length r.fst) : Int) == 0 then
          some ((false, ()))
        else
          l0 vars code' post have' r r.fst 0
def law_WeakAheads_l0 (nf : Nat) (vars : Int) (code' : List (Int × Int × Int × Int × Int × Unit)) (post : List (Int × Int × Int × Int × Unit)) (have' : List Int) (r : List (Int × Int × Int × Int × Unit) × Int × Unit) : Nat → List (Int × Int × Int × Int × Unit) → Int → Option (Bool × Unit)
  | 0, _, _ => none
  | fu + 1, l', t48 => law_WeakAheads_b0 nf  vars code' post have' r  (law_WeakAheads_l0 nf vars code' post have' r  fu) l' t48
def law_WeakAheads_f (nf : Nat) (vars : Int) (code' : List (Int × Int × Int × Int × Int × Unit)) (post : List (Int × Int × Int × Int × Unit)) (have' : List Int) : Option (Bool × Unit) := law_WeakAheads_p nf (fun p0 p1 p2 p3 p4 v0 v1 => law_WeakAheads_l0 nf p0 p1 p2 p3 p4 nf v0 v1) vars code' post have'
noncomputable def law_WeakAheads_L0 (nf : Nat) : LC (Bool × Unit) := theL (findL tab (law_WeakAheads_phi nf) (fun _ F => iter nf F) law_WeakAheads_keep 0 0 (codeOf Try.f16) (fin tab [(Ty.bool, Md.bor false true)] (resL ([]) Try.f16)) (fun _ _ => none) (fin tab [(Ty.bool, Md.bor false true)] (resL ([]) Try.f16)))
def law_WeakAheads_m0 (vars : Int) (code' : List (Int × Int × Int × Int × Int × Unit)) (post : List (Int × Int × Int × Int × Unit)) (have' : List Int) (r : List (Int × Int × Int × Int × Unit) × Int × Unit) (l' : List (Int × Int × Int × Int × Unit)) (t48 : Int) : St := ⟨fresh, [(0, AV.v (Ty.int IntKind.i64) (Md.bor false true) vars), (1, AV.v ((Ty.int IntKind.i64).pair ((Ty.int IntKind.i64).pair ((Ty.int IntKind.i64).pair ((Ty.int IntKind.i64).pair ((Ty.int IntKind.i64).pair Ty.unit))))).sl (Md.bor false false) code'), (2, AV.v ((Ty.int IntKind.i64).pair ((Ty.int IntKind.i64).pair ((Ty.int IntKind.i64).pair ((Ty.int IntKind.i64).pair Ty.unit)))).sl (Md.bor false false) post), (3, AV.v (Ty.int IntKind.i64).sl (Md.bor false false) have'), (9, AV.ow 500009 ((Ty.int IntKind.i64).pair ((Ty.int IntKind.i64).pair ((Ty.int IntKind.i64).pair ((Ty.int IntKind.i64).pair Ty.unit)))).sl (Md.own false (Md.bor false false)) l'), (14, AV.dead), (18, AV.dead), (19, AV.dead), (46, AV.al 9 500009 []), (47, AV.v (Ty.int IntKind.i64) (Md.bor false true) (↑(List.length r.fst) : Int)), (48, AV.v (Ty.int IntKind.i64) (Md.bor false true) t48)]⟩
theorem law_WeakAheads_h0 (nf : Nat)  (vars : Int) (code' : List (Int × Int × Int × Int × Int × Unit)) (post : List (Int × Int × Int × Int × Unit)) (have' : List Int) (r : List (Int × Int × Int × Int × Unit) × Int × Unit) (fu : Nat) (l' : List (Int × Int × Int × Int × Unit)) (t48 : Int) : iter (fu + 1) (LC.F tab (law_WeakAheads_phi nf) (fun _ F => iter nf F) law_WeakAheads_keep 0 (law_WeakAheads_L0 nf )) (law_WeakAheads_m0 vars code' post have' r l' t48) = law_WeakAheads_b0 nf  vars code' post have' r  (fun l' t48 => iter fu (LC.F tab (law_WeakAheads_phi nf) (fun _ F => iter nf F) law_WeakAheads_keep 0 (law_WeakAheads_L0 nf )) (law_WeakAheads_m0 vars code' post have' r l' t48)) l' t48 := by kernel_rfl
theorem law_WeakAheads_e0 (nf : Nat)  (vars : Int) (code' : List (Int × Int × Int × Int × Int × Unit)) (post : List (Int × Int × Int × Int × Unit)) (have' : List Int) (r : List (Int × Int × Int × Int × Unit) × Int × Unit) : ∀ (fu : Nat) (l' : List (Int × Int × Int × Int × Unit)) (t48 : Int), iter fu (LC.F tab (law_WeakAheads_phi nf) (fun _ F => iter nf F) law_WeakAheads_keep 0 (law_WeakAheads_L0 nf )) (law_WeakAheads_m0 vars code' post have' r l' t48) = law_WeakAheads_l0 nf vars code' post have' r  fu l' t48 := by
  intro fu
  induction fu with
  | zero => intros; rfl
  | succ fu ih =>
    intro l' t48
    rw [law_WeakAheads_h0 nf  vars code' post have' r fu l' t48]
    simp only [ih]
    rfl
theorem law_WeakAheads_eq (nf : Nat) (vars : Int) (code' : List (Int × Int × Int × Int × Int × Unit)) (post : List (Int × Int × Int × Int × Unit)) (have' : List Int) : runF tab (law_WeakAheads_phi nf) law_WeakAheads_keep nf [PT.val (Ty.int IntKind.i64) (Md.bor false false), PT.val ((Ty.int IntKind.i64).pair ((Ty.int IntKind.i64).pair ((Ty.int IntKind.i64).pair ((Ty.int IntKind.i64).pair ((Ty.int IntKind.i64).pair Ty.unit))))).sl (Md.bor false false), PT.val ((Ty.int IntKind.i64).pair ((Ty.int IntKind.i64).pair ((Ty.int IntKind.i64).pair ((Ty.int IntKind.i64).pair Ty.unit)))).sl (Md.bor false false), PT.val (Ty.int IntKind.i64).sl (Md.bor false false)] [(Ty.bool, Md.bor false true)] (resL ([]) Try.f16) (codeOf Try.f16) ⟨vars, code', post, have', ()⟩ = law_WeakAheads_f nf vars code' post have' := by
  have h : runF tab (law_WeakAheads_phi nf) law_WeakAheads_keep nf [PT.val (Ty.int IntKind.i64) (Md.bor false false), PT.val ((Ty.int IntKind.i64).pair ((Ty.int IntKind.i64).pair ((Ty.int IntKind.i64).pair ((Ty.int IntKind.i64).pair ((Ty.int IntKind.i64).pair Ty.unit))))).sl (Md.bor false false), PT.val ((Ty.int IntKind.i64).pair ((Ty.int IntKind.i64).pair ((Ty.int IntKind.i64).pair ((Ty.int IntKind.i64).pair Ty.unit)))).sl (Md.bor false false), PT.val (Ty.int IntKind.i64).sl (Md.bor false false)] [(Ty.bool, Md.bor false true)] (resL ([]) Try.f16) (codeOf Try.f16) ⟨vars, code', post, have', ()⟩ = law_WeakAheads_p nf (fun p0 p1 p2 p3 p4 v0 v1 => iter nf (LC.F tab (law_WeakAheads_phi nf) (fun _ F => iter nf F) law_WeakAheads_keep 0 (law_WeakAheads_L0 nf)) (law_WeakAheads_m0 p0 p1 p2 p3 p4 v0 v1)) vars code' post have' := by kernel_rfl
  rw [h]
  simp only [law_WeakAheads_e0]
  rfl
def law_WeakAheads_F (nf : Nat) (x : denPs [.val (.int .i64) (.bor false false), .val (.sl (.pair (.int .i64) (.pair (.int .i64) (.pair (.int .i64) (.pair (.int .i64) (.pair (.int .i64) (.unit))))))) (.bor false false), .val (.sl (.pair (.int .i64) (.pair (.int .i64) (.pair (.int .i64) (.pair (.int .i64) (.unit)))))) (.bor false false), .val (.sl (.int .i64)) (.bor false false)]) : Option (denL [(.bool, .bor false true)]) := law_WeakAheads_f nf x.1 x.2.1 x.2.2.1 x.2.2.2.1
def law_WeakAheads_C (nf : Nat) : Contract := ⟨[.val (.int .i64) (.bor false false), .val (.sl (.pair (.int .i64) (.pair (.int .i64) (.pair (.int .i64) (.pair (.int .i64) (.pair (.int .i64) (.unit))))))) (.bor false false), .val (.sl (.pair (.int .i64) (.pair (.int .i64) (.pair (.int .i64) (.pair (.int .i64) (.unit)))))) (.bor false false), .val (.sl (.int .i64)) (.bor false false)], [(.bool, .bor false true)], law_WeakAheads_F nf, []⟩
theorem law_WeakAheads_ok : FnOK Try.prog 16 := ⟨Try.f16, codeOf Try.f16, Try.func16, by kernel_rfl, by kernel_rfl⟩
theorem law_WeakAheads_holds (nf : Nat) : Contract.Holds Try.prog 16 (law_WeakAheads_C nf) :=
  fn_holds (Φ := law_WeakAheads_phi nf) (keep := law_WeakAheads_keep) (n := nf) ⟨tabs.1, tabs.2, (ctx_cons ref_TermsCheck_ok (ref_TermsCheck_holds nf) (ctx_cons ref_Term_ok (ref_Term_holds nf) (ctx_cons ref_HaveCheck_ok (ref_HaveCheck_holds nf) (ctx_cons ref_Inside_ok (ref_Inside_holds nf) (ctx_cons weak_Ahead_ok (weak_Ahead_holds nf) (ctx_cons law_codeCode_ok (law_codeCode_holds nf) (ctx_cons ref_Value_ok (ref_Value_holds nf) (ctx_cons ref_Doing_ok (ref_Doing_holds nf) ctx_nil)))))))), mixed, bk_ok bkls rfl⟩ (fn := Try.f16) ⟨Try.func16, by kernel_rfl, by kernel_rfl, by kernel_rfl⟩ (fun x => law_WeakAheads_eq nf x.1 x.2.1 x.2.2.1 x.2.2.2.1)

/-! codemason block.Do -/
def block_Do_phi (nf : Nat) : Nat → Option Contract := lookC [(67, term_Do_C nf)]
def block_Do_keep : Nat → List Nat := lookK [(0, [0, 1, 6, 7, 8])]
def block_Do_b0 (nf : Nat) (code' : List (Int × Int × Int × Int × Int × Unit)) (g0 : List Int → Int → Option (List Int × Unit)) (vars2 : List Int) (t8 : Int) : Option (List Int × Unit) :=
  bif decide (t8 < (↑code'.length : Int)) then
    bif inb t8 code'.length then
      bif (code'.getD t8.toNat (0, 0, 0, 0, 0, ())).fst == 1 then
        bif inb (code'.getD t8.toNat (0, 0, 0, 0, 0, ())).snd.fst vars2.length then
          g0 (vars2.set (Int.toNat (code'.getD t8.toNat (0, 0, 0, 0, 0, ())).snd.fst) (code'.getD t8.toNat (0, 0, 0, 0, 0, ())).snd.snd.snd.snd.fst) (IntKind.i64.wrap (t8 + 1))
        else
          none
      else
        bif (code'.getD t8.toNat (0, 0, 0, 0, 0, ())).fst == 2 then
          bif inb (code'.getD t8.toNat (0, 0, 0, 0, 0, ())).snd.snd.snd.snd.fst vars2.length then
            bif inb (code'.getD t8.toNat (0, 0, 0, 0, 0, ())).snd.fst vars2.length then
              g0 (vars2.set (Int.toNat (code'.getD t8.toNat (0, 0, 0, 0, 0, ())).snd.fst) (vars2.getD (Int.toNat (code'.getD t8.toNat (0, 0, 0, 0, 0, ())).snd.snd.snd.snd.fst) 0)) (IntKind.i64.wrap (t8 + 1))
            else
              none
          else
            none
        else
          bif inb (code'.getD t8.toNat (0, 0, 0, 0, 0, ())).snd.snd.fst vars2.length then
            bif inb (code'.getD t8.toNat (0, 0, 0, 0, 0, ())).snd.snd.snd.fst vars2.length then
              Option.bind (term_Do_f nf ((code'.getD t8.toNat (0, 0, 0, 0, 0, ())).fst) (vars2.getD (Int.toNat (code'.getD t8.toNat (0, 0, 0, 0, 0, ())).snd.snd.fst) 0) (vars2.getD (Int.toNat (code'.getD t8.toNat (0, 0, 0, 0, 0, ())).snd.snd.snd.fst) 0)) fun r =>
              bif inb (code'.getD t8.toNat (0, 0, 0, 0, 0, ())).snd.fst vars2.length then
                g0 (vars2.set (Int.toNat (code'.getD t8.toNat (0, 0, 0, 0, 0, ())).snd.fst) r.fst) (IntKind.i64.wrap (t8 + 1))
              else
                none
            else
              none
          else
            none
    else
      none
  else
    some ((vars2, ()))
def block_Do_p (nf : Nat) (l0 : List (Int × Int × Int × Int × Int × Unit) → List Int → Int → Option (List Int × Unit)) (code' : List (Int × Int × Int × Int × Int × Unit)) (vars : List Int) : Option (List Int × Unit) :=
  l0 code' vars 0
def block_Do_l0 (nf : Nat) (code' : List (Int × Int × Int × Int × Int × Unit)) : Nat → List Int → Int → Option (List Int × Unit)
  | 0, _, _ => none
  | fu + 1, vars2, t8 => block_Do_b0 nf  code'  (block_Do_l0 nf code'  fu) vars2 t8
def block_Do_f (nf : Nat) (code' : List (Int × Int × Int × Int × Int × Unit)) (vars : List Int) : Option (List Int × Unit) := block_Do_p nf (fun p0 v0 v1 => block_Do_l0 nf p0 nf v0 v1) code' vars
noncomputable def block_Do_L0 (nf : Nat) : LC (List Int × Unit) := theL (findL tab (block_Do_phi nf) (fun _ F => iter nf F) block_Do_keep 0 0 (codeOf Try.f85) (fin tab [((Ty.int IntKind.i64).sl, Md.own false (Md.bor false false))] (resL ([1]) Try.f85)) (fun _ _ => none) (fin tab [((Ty.int IntKind.i64).sl, Md.own false (Md.bor false false))] (resL ([1]) Try.f85)))
def block_Do_m0 (code' : List (Int × Int × Int × Int × Int × Unit)) (vars2 : List Int) (t8 : Int) : St := ⟨fresh, [(0, AV.v ((Ty.int IntKind.i64).pair ((Ty.int IntKind.i64).pair ((Ty.int IntKind.i64).pair ((Ty.int IntKind.i64).pair ((Ty.int IntKind.i64).pair Ty.unit))))).sl (Md.bor true false) code'), (1, AV.ow 500001 (Ty.int IntKind.i64).sl (Md.own false (Md.bor false false)) vars2), (6, AV.v ((Ty.int IntKind.i64).pair ((Ty.int IntKind.i64).pair ((Ty.int IntKind.i64).pair ((Ty.int IntKind.i64).pair ((Ty.int IntKind.i64).pair Ty.unit))))).sl (Md.bor true false) code'), (7, AV.v (Ty.int IntKind.i64) (Md.bor false true) (↑code'.length : Int)), (8, AV.v (Ty.int IntKind.i64) (Md.bor false true) t8)]⟩
theorem block_Do_h0 (nf : Nat)  (code' : List (Int × Int × Int × Int × Int × Unit)) (fu : Nat) (vars2 : List Int) (t8 : Int) : iter (fu + 1) (LC.F tab (block_Do_phi nf) (fun _ F => iter nf F) block_Do_keep 0 (block_Do_L0 nf )) (block_Do_m0 code' vars2 t8) = block_Do_b0 nf  code'  (fun vars2 t8 => iter fu (LC.F tab (block_Do_phi nf) (fun _ F => iter nf F) block_Do_keep 0 (block_Do_L0 nf )) (block_Do_m0 code' vars2 t8)) vars2 t8 := by kernel_rfl
theorem block_Do_e0 (nf : Nat)  (code' : List (Int × Int × Int × Int × Int × Unit)) : ∀ (fu : Nat) (vars2 : List Int) (t8 : Int), iter fu (LC.F tab (block_Do_phi nf) (fun _ F => iter nf F) block_Do_keep 0 (block_Do_L0 nf )) (block_Do_m0 code' vars2 t8) = block_Do_l0 nf code'  fu vars2 t8 := by
  intro fu
  induction fu with
  | zero => intros; rfl
  | succ fu ih =>
    intro vars2 t8
    rw [block_Do_h0 nf  code' fu vars2 t8]
    simp only [ih]
    rfl
theorem block_Do_eq (nf : Nat) (code' : List (Int × Int × Int × Int × Int × Unit)) (vars : List Int) : runF tab (block_Do_phi nf) block_Do_keep nf [PT.val ((Ty.int IntKind.i64).pair ((Ty.int IntKind.i64).pair ((Ty.int IntKind.i64).pair ((Ty.int IntKind.i64).pair ((Ty.int IntKind.i64).pair Ty.unit))))).sl (Md.bor true false), PT.val (Ty.int IntKind.i64).sl (Md.own false (Md.bor false false))] [((Ty.int IntKind.i64).sl, Md.own false (Md.bor false false))] (resL ([1]) Try.f85) (codeOf Try.f85) ⟨code', vars, ()⟩ = block_Do_f nf code' vars := by
  have h : runF tab (block_Do_phi nf) block_Do_keep nf [PT.val ((Ty.int IntKind.i64).pair ((Ty.int IntKind.i64).pair ((Ty.int IntKind.i64).pair ((Ty.int IntKind.i64).pair ((Ty.int IntKind.i64).pair Ty.unit))))).sl (Md.bor true false), PT.val (Ty.int IntKind.i64).sl (Md.own false (Md.bor false false))] [((Ty.int IntKind.i64).sl, Md.own false (Md.bor false false))] (resL ([1]) Try.f85) (codeOf Try.f85) ⟨code', vars, ()⟩ = block_Do_p nf (fun p0 v0 v1 => iter nf (LC.F tab (block_Do_phi nf) (fun _ F => iter nf F) block_Do_keep 0 (block_Do_L0 nf)) (block_Do_m0 p0 v0 v1)) code' vars := by kernel_rfl
  rw [h]
  simp only [block_Do_e0]
  rfl
def block_Do_F (nf : Nat) (x : denPs [.val (.sl (.pair (.int .i64) (.pair (.int .i64) (.pair (.int .i64) (.pair (.int .i64) (.pair (.int .i64) (.unit))))))) (.bor true false), .val (.sl (.int .i64)) (.own false (.bor false false))]) : Option (denL [(.sl (.int .i64), .own false (.bor false false))]) := block_Do_f nf x.1 x.2.1
def block_Do_C (nf : Nat) : Contract := ⟨[.val (.sl (.pair (.int .i64) (.pair (.int .i64) (.pair (.int .i64) (.pair (.int .i64) (.pair (.int .i64) (.unit))))))) (.bor true false), .val (.sl (.int .i64)) (.own false (.bor false false))], [(.sl (.int .i64), .own false (.bor false false))], block_Do_F nf, [1]⟩
theorem block_Do_ok : FnOK Try.prog 85 := ⟨Try.f85, codeOf Try.f85, Try.func85, by kernel_rfl, by kernel_rfl⟩
theorem block_Do_holds (nf : Nat) : Contract.Holds Try.prog 85 (block_Do_C nf) :=
  fn_holds (Φ := block_Do_phi nf) (keep := block_Do_keep) (n := nf) ⟨tabs.1, tabs.2, (ctx_cons term_Do_ok (term_Do_holds nf) ctx_nil), mixed, bk_ok bkls rfl⟩ (fn := Try.f85) ⟨Try.func85, by kernel_rfl, by kernel_rfl, by kernel_rfl⟩ (fun x => block_Do_eq nf x.1 x.2.1)
end
end Go.Proofs.Ytpnganfbonlphaa.S
