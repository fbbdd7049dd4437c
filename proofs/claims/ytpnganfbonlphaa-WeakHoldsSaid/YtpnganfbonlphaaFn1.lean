/- The functions of the code, as plain functions, and the theorems that say so: made by a program of this proof's own. -/
import Derived.Test.YtpnganfbonlphaaAbCheck
import Derived.Test.YtpnganfbonlphaaChecked
namespace Go.Proofs.Ytpnganfbonlphaa.S
open Go Go.Ab
noncomputable section
def tab : Tab := ⟨lookT [(2, .int .i64), (3, .int .i64), (4, .bool), (5, .int .u8), (6, .int .u8), (7, .pair (.int .i64) (.pair (.int .i64) (.pair (.bool) (.pair (.int .u8) (.unit))))), (8, .pair (.int .i64) (.pair (.int .i64) (.pair (.bool) (.pair (.int .u8) (.unit))))), (12, .int .u64), (21, .int .i32), (22, .sl (.pair (.int .i64) (.pair (.int .i64) (.pair (.int .i64) (.pair (.int .i64) (.unit)))))), (23, .int .i64), (26, .int .u32), (29, .sl (.int .i64)), (31, .pair (.int .i64) (.pair (.int .i64) (.pair (.int .i64) (.pair (.int .i64) (.unit))))), (32, .pair (.int .i64) (.pair (.int .i64) (.pair (.int .i64) (.pair (.int .i64) (.unit))))), (33, .int .u64), (44, .sl (.pair (.int .i64) (.pair (.int .i64) (.pair (.int .i64) (.pair (.int .i64) (.pair (.int .i64) (.unit))))))), (55, .sl (.pair (.int .i64) (.pair (.int .i64) (.unit)))), (65, .pair (.int .i64) (.pair (.int .i64) (.unit))), (66, .pair (.int .i64) (.pair (.int .i64) (.unit))), (86, .sl (.pair (.int .i64) (.pair (.int .i64) (.pair (.int .i64) (.pair (.int .i64) (.unit)))))), (94, .pair (.int .i64) (.pair (.int .i64) (.pair (.int .i64) (.pair (.int .i64) (.unit))))), (95, .pair (.int .i64) (.pair (.int .i64) (.pair (.int .i64) (.pair (.int .i64) (.unit))))), (96, .sl (.bool)), (101, .pair (.int .i64) (.pair (.int .i64) (.pair (.int .i64) (.pair (.int .i64) (.pair (.int .i64) (.unit)))))), (102, .pair (.int .i64) (.pair (.int .i64) (.pair (.int .i64) (.pair (.int .i64) (.pair (.int .i64) (.unit)))))), (104, .pair (.sl (.pair (.int .i64) (.pair (.int .i64) (.pair (.int .i64) (.pair (.int .i64) (.unit)))))) (.pair (.sl (.int .i64)) (.pair (.sl (.pair (.int .i64) (.pair (.int .i64) (.pair (.int .i64) (.pair (.int .i64) (.pair (.int .i64) (.unit))))))) (.unit)))), (105, .pair (.sl (.pair (.int .i64) (.pair (.int .i64) (.pair (.int .i64) (.pair (.int .i64) (.unit)))))) (.pair (.sl (.int .i64)) (.pair (.sl (.pair (.int .i64) (.pair (.int .i64) (.pair (.int .i64) (.pair (.int .i64) (.pair (.int .i64) (.unit))))))) (.unit)))), (119, .pair (.sl (.pair (.int .i64) (.pair (.int .i64) (.pair (.int .i64) (.pair (.int .i64) (.pair (.int .i64) (.unit))))))) (.pair (.int .i64) (.pair (.int .i64) (.pair (.int .i64) (.unit))))), (120, .pair (.sl (.pair (.int .i64) (.pair (.int .i64) (.pair (.int .i64) (.pair (.int .i64) (.pair (.int .i64) (.unit))))))) (.pair (.int .i64) (.pair (.int .i64) (.pair (.int .i64) (.unit))))), (121, .sl (.pair (.sl (.pair (.int .i64) (.pair (.int .i64) (.pair (.int .i64) (.pair (.int .i64) (.pair (.int .i64) (.unit))))))) (.pair (.int .i64) (.pair (.int .i64) (.pair (.int .i64) (.unit)))))), (142, .int .u8), (143, .int .u8), (146, .int .i32), (147, .int .i32)], lookM [(2, .bor false true), (3, .bor false true), (4, .bor false true), (5, .bor false true), (6, .bor false true), (7, .bor false true), (8, .bor false true), (12, .bor false true), (21, .bor false true), (22, .own false (.bor false false)), (23, .bor false true), (26, .bor false true), (29, .own false (.bor false false)), (31, .bor false true), (32, .bor false true), (33, .bor false true), (44, .own false (.bor false false)), (55, .own false (.bor false false)), (65, .bor false true), (66, .bor false true), (86, .own false (.bor false false)), (94, .bor false true), (95, .bor false true), (96, .own false (.bor false false)), (101, .bor false true), (102, .bor false true), (104, .bor true false), (105, .bor true false), (119, .bor true false), (120, .bor true false), (121, .own false (.bor false false)), (142, .bor false true), (143, .bor false true), (146, .bor false true), (147, .bor false true)], hasT [138], hasT [9, 10, 11]⟩
theorem tabs : TabOK Try.prog tab ∧ EqOK Try.prog tab := tab_ok (by kernel_rfl) (by kernel_rfl)
theorem mixed : Try.prog.follows .mixedOrders = true := by kernel_rfl

/-! codemason codemasonref.Inside -/
def ref_Inside_phi (nf : Nat) : Nat → Option Contract := lookC []
def ref_Inside_keep : Nat → List Nat := lookK [(0, [0, 1, 7, 8, 9])]
def ref_Inside_b0 (nf : Nat) (n' : Int) (l' : List Int) (g0 : Int → Option (Bool × Unit)) (t9 : Int) : Option (Bool × Unit) :=
  bif decide (t9 < (↑l'.length : Int)) then
    bif inb t9 l'.length then
      bif decide (l'.getD t9.toNat 0 < 0) then
        some ((false, ()))
      else
        bif decide (l'.getD t9.toNat 0 ≥ n') then
          some ((false, ()))
        else
          g0 (IntKind.i64.wrap (t9 + 1))
    else
      none
  else
    some ((true, ()))
def ref_Inside_p (nf : Nat) (l0 : Int → List Int → Int → Option (Bool × Unit)) (n' : Int) (l' : List Int) : Option (Bool × Unit) :=
  l0 n' l' 0
def ref_Inside_l0 (nf : Nat) (n' : Int) (l' : List Int) : Nat → Int → Option (Bool × Unit)
  | 0, _ => none
  | fu + 1, t9 => ref_Inside_b0 nf  n' l'  (ref_Inside_l0 nf n' l'  fu) t9
def ref_Inside_f (nf : Nat) (n' : Int) (l' : List Int) : Option (Bool × Unit) := ref_Inside_p nf (fun p0 p1 v0 => ref_Inside_l0 nf p0 p1 nf v0) n' l'
noncomputable def ref_Inside_L0 (nf : Nat) : LC (Bool × Unit) := theL (findL tab (ref_Inside_phi nf) (fun _ F => iter nf F) ref_Inside_keep 0 0 (codeOf Try.f50) (fin tab [(Ty.bool, Md.bor false true)] (resL (none) Try.f50)) (fun _ _ => none) (fin tab [(Ty.bool, Md.bor false true)] (resL (none) Try.f50)))
def ref_Inside_m0 (n' : Int) (l' : List Int) (t9 : Int) : St := ⟨fresh, [(0, AV.v (Ty.int IntKind.i64) (Md.bor false true) n'), (1, AV.v (Ty.int IntKind.i64).sl (Md.bor true false) l'), (7, AV.v (Ty.int IntKind.i64).sl (Md.bor true false) l'), (8, AV.v (Ty.int IntKind.i64) (Md.bor false true) (↑l'.length : Int)), (9, AV.v (Ty.int IntKind.i64) (Md.bor false true) t9)]⟩
theorem ref_Inside_h0 (nf : Nat)  (n' : Int) (l' : List Int) (fu : Nat) (t9 : Int) : iter (fu + 1) (LC.F tab (ref_Inside_phi nf) (fun _ F => iter nf F) ref_Inside_keep 0 (ref_Inside_L0 nf )) (ref_Inside_m0 n' l' t9) = ref_Inside_b0 nf  n' l'  (fun t9 => iter fu (LC.F tab (ref_Inside_phi nf) (fun _ F => iter nf F) ref_Inside_keep 0 (ref_Inside_L0 nf )) (ref_Inside_m0 n' l' t9)) t9 := by kernel_rfl
theorem ref_Inside_e0 (nf : Nat)  (n' : Int) (l' : List Int) : ∀ (fu : Nat) (t9 : Int), iter fu (LC.F tab (ref_Inside_phi nf) (fun _ F => iter nf F) ref_Inside_keep 0 (ref_Inside_L0 nf )) (ref_Inside_m0 n' l' t9) = ref_Inside_l0 nf n' l'  fu t9 := by
  intro fu
  induction fu with
  | zero => intros; rfl
  | succ fu ih =>
    intro t9
    rw [ref_Inside_h0 nf  n' l' fu t9]
    simp only [ih]
    rfl
theorem ref_Inside_eq (nf : Nat) (n' : Int) (l' : List Int) : runF tab (ref_Inside_phi nf) ref_Inside_keep nf [PT.val (Ty.int IntKind.i64) (Md.bor true false), PT.val (Ty.int IntKind.i64).sl (Md.bor true false)] [(Ty.bool, Md.bor false true)] (resL (none) Try.f50) (codeOf Try.f50) ⟨n', l', ()⟩ = ref_Inside_f nf n' l' := by
  have h : runF tab (ref_Inside_phi nf) ref_Inside_keep nf [PT.val (Ty.int IntKind.i64) (Md.bor true false), PT.val (Ty.int IntKind.i64).sl (Md.bor true false)] [(Ty.bool, Md.bor false true)] (resL (none) Try.f50) (codeOf Try.f50) ⟨n', l', ()⟩ = ref_Inside_p nf (fun p0 p1 v0 => iter nf (LC.F tab (ref_Inside_phi nf) (fun _ F => iter nf F) ref_Inside_keep 0 (ref_Inside_L0 nf)) (ref_Inside_m0 p0 p1 v0)) n' l' := by kernel_rfl
  rw [h]
  simp only [ref_Inside_e0]
  rfl
def ref_Inside_F (nf : Nat) (x : denPs [.val (.int .i64) (.bor true false), .val (.sl (.int .i64)) (.bor true false)]) : Option (denL [(.bool, .bor false true)]) := ref_Inside_f nf x.1 x.2.1
def ref_Inside_C (nf : Nat) : Contract := ⟨[.val (.int .i64) (.bor true false), .val (.sl (.int .i64)) (.bor true false)], [(.bool, .bor false true)], ref_Inside_F nf, none⟩
theorem ref_Inside_ok : FnOK Try.prog 50 := ⟨Try.f50, codeOf Try.f50, Try.func50, by kernel_rfl, by kernel_rfl⟩
theorem ref_Inside_holds (nf : Nat) : Contract.Holds Try.prog 50 (ref_Inside_C nf) :=
  fn_holds (Φ := ref_Inside_phi nf) (keep := ref_Inside_keep) (n := nf) ⟨tabs.1, tabs.2, ctx_nil, mixed⟩ (fn := Try.f50) ⟨Try.func50, by kernel_rfl, by kernel_rfl, by kernel_rfl⟩ (fun x => ref_Inside_eq nf x.1 x.2.1)

/-! codemason codemasonref.Value -/
def ref_Value_phi (nf : Nat) : Nat → Option Contract := lookC []
def ref_Value_keep : Nat → List Nat := lookK []
def ref_Value_p (nf : Nat)  (x : Int) : Option (Bool × Unit) :=
  bif decide (x ≥ 0) then
    some ((decide (x ≤ 255), ()))
  else
    some ((false, ()))
def ref_Value_f (nf : Nat) (x : Int) : Option (Bool × Unit) := ref_Value_p nf  x
theorem ref_Value_eq (nf : Nat) (x : Int) : runF tab (ref_Value_phi nf) ref_Value_keep nf [PT.val (Ty.int IntKind.i64) (Md.bor true false)] [(Ty.bool, Md.bor false true)] (resL (none) Try.f56) (codeOf Try.f56) ⟨x, ()⟩ = ref_Value_f nf x := by
  have h : runF tab (ref_Value_phi nf) ref_Value_keep nf [PT.val (Ty.int IntKind.i64) (Md.bor true false)] [(Ty.bool, Md.bor false true)] (resL (none) Try.f56) (codeOf Try.f56) ⟨x, ()⟩ = ref_Value_p nf  x := by kernel_rfl
  exact h
def ref_Value_F (nf : Nat) (x : denPs [.val (.int .i64) (.bor true false)]) : Option (denL [(.bool, .bor false true)]) := ref_Value_f nf x.1
def ref_Value_C (nf : Nat) : Contract := ⟨[.val (.int .i64) (.bor true false)], [(.bool, .bor false true)], ref_Value_F nf, none⟩
theorem ref_Value_ok : FnOK Try.prog 56 := ⟨Try.f56, codeOf Try.f56, Try.func56, by kernel_rfl, by kernel_rfl⟩
theorem ref_Value_holds (nf : Nat) : Contract.Holds Try.prog 56 (ref_Value_C nf) :=
  fn_holds (Φ := ref_Value_phi nf) (keep := ref_Value_keep) (n := nf) ⟨tabs.1, tabs.2, ctx_nil, mixed⟩ (fn := Try.f56) ⟨Try.func56, by kernel_rfl, by kernel_rfl, by kernel_rfl⟩ (fun x => ref_Value_eq nf x.1)

/-! codemason codemasonref.TermsCheck -/
def ref_TermsCheck_phi (nf : Nat) : Nat → Option Contract := lookC [(50, ref_Inside_C nf), (56, ref_Value_C nf)]
def ref_TermsCheck_keep : Nat → List Nat := lookK [(0, [0, 1, 23, 24, 25])]
def ref_TermsCheck_b0 (nf : Nat) (vars : Int) (l' : List (Int × Int × Int × Int × Unit)) (g0 : Int → Option (Int × Unit)) (t25 : Int) : Option (Int × Unit) :=
  bif decide (t25 < (↑l'.length : Int)) then
    bif inb t25 l'.length then
      bif decide ((l'.getD t25.toNat (0, 0, 0, 0, ())).fst < 1) then
        some ((6, ()))
      else
        bif decide ((l'.getD t25.toNat (0, 0, 0, 0, ())).fst > 6) then
          some ((6, ()))
        else
          bif (l'.getD t25.toNat (0, 0, 0, 0, ())).fst == 1 then
            Option.bind (ref_Value_f nf ((l'.getD t25.toNat (0, 0, 0, 0, ())).snd.snd.snd.fst)) fun r =>
            bif !r.fst then
              some ((4, ()))
            else
              bif (l'.getD t25.toNat (0, 0, 0, 0, ())).fst == 2 then
                Option.bind (ref_Inside_f nf vars ([(l'.getD t25.toNat (0, 0, 0, 0, ())).snd.snd.snd.fst])) fun r2 =>
                bif !r2.fst then
                  some ((4, ()))
                else
                  bif decide ((l'.getD t25.toNat (0, 0, 0, 0, ())).fst ≥ 3) then
                    Option.bind (ref_Inside_f nf t25 ([(l'.getD t25.toNat (0, 0, 0, 0, ())).snd.fst, (l'.getD t25.toNat (0, 0, 0, 0, ())).snd.snd.fst])) fun r3 =>
                    bif !r3.fst then
                      some ((2, ()))
                    else
                      g0 (IntKind.i64.wrap (t25 + 1))
                  else
                    g0 (IntKind.i64.wrap (t25 + 1))
              else
                bif decide ((l'.getD t25.toNat (0, 0, 0, 0, ())).fst ≥ 3) then
                  Option.bind (ref_Inside_f nf t25 ([(l'.getD t25.toNat (0, 0, 0, 0, ())).snd.fst, (l'.getD t25.toNat (0, 0, 0, 0, ())).snd.snd.fst])) fun r4 =>
                  bif !r4.fst then
                    some ((2, ()))
                  else
                    g0 (IntKind.i64.wrap (t25 + 1))
                else
                  g0 (IntKind.i64.wrap (t25 + 1))
          else
            bif (l'.getD t25.toNat (0, 0, 0, 0, ())).fst == 2 then
              Option.bind (ref_Inside_f nf vars ([(l'.getD t25.toNat (0, 0, 0, 0, ())).snd.snd.snd.fst])) fun r5 =>
              bif !r5.fst then
                some ((4, ()))
              else
                bif decide ((l'.getD t25.toNat (0, 0, 0, 0, ())).fst ≥ 3) then
                  Option.bind (ref_Inside_f nf t25 ([(l'.getD t25.toNat (0, 0, 0, 0, ())).snd.fst, (l'.getD t25.toNat (0, 0, 0, 0, ())).snd.snd.fst])) fun r6 =>
                  bif !r6.fst then
                    some ((2, ()))
                  else
                    g0 (IntKind.i64.wrap (t25 + 1))
                else
                  g0 (IntKind.i64.wrap (t25 + 1))
            else
              bif decide ((l'.getD t25.toNat (0, 0, 0, 0, ())).fst ≥ 3) then
                Option.bind (ref_Inside_f nf t25 ([(l'.getD t25.toNat (0, 0, 0, 0, ())).snd.fst, (l'.getD t25.toNat (0, 0, 0, 0, ())).snd.snd.fst])) fun r7 =>
                bif !r7.fst then
                  some ((2, ()))
                else
                  g0 (IntKind.i64.wrap (t25 + 1))
              else
                g0 (IntKind.i64.wrap (t25 + 1))
    else
      none
  else
    some ((0, ()))
def ref_TermsCheck_p (nf : Nat) (l0 : Int → List (Int × Int × Int × Int × Unit) → Int → Option (Int × Unit)) (vars : Int) (l' : List (Int × Int × Int × Int × Unit)) : Option (Int × Unit) :=
  bif decide (vars < 0) then
    some ((1, ()))
  else
    bif decide (vars > 6) then
      some ((1, ()))
    else
      bif decide ((↑l'.length : Int) < 1) then
        some ((1, ()))
      else
        bif decide ((↑l'.length : Int) > 16) then
          some ((1, ()))
        else
          l0 vars l' 0
def ref_TermsCheck_l0 (nf : Nat) (vars : Int) (l' : List (Int × Int × Int × Int × Unit)) : Nat → Int → Option (Int × Unit)
  | 0, _ => none
  | fu + 1, t25 => ref_TermsCheck_b0 nf  vars l'  (ref_TermsCheck_l0 nf vars l'  fu) t25
def ref_TermsCheck_f (nf : Nat) (vars : Int) (l' : List (Int × Int × Int × Int × Unit)) : Option (Int × Unit) := ref_TermsCheck_p nf (fun p0 p1 v0 => ref_TermsCheck_l0 nf p0 p1 nf v0) vars l'
noncomputable def ref_TermsCheck_L0 (nf : Nat) : LC (Int × Unit) := theL (findL tab (ref_TermsCheck_phi nf) (fun _ F => iter nf F) ref_TermsCheck_keep 0 0 (codeOf Try.f21) (fin tab [(Ty.int IntKind.i64, Md.bor false true)] (resL (none) Try.f21)) (fun _ _ => none) (fin tab [(Ty.int IntKind.i64, Md.bor false true)] (resL (none) Try.f21)))
def ref_TermsCheck_m0 (vars : Int) (l' : List (Int × Int × Int × Int × Unit)) (t25 : Int) : St := ⟨fresh, [(0, AV.v (Ty.int IntKind.i64) (Md.bor false true) vars), (1, AV.v ((Ty.int IntKind.i64).pair ((Ty.int IntKind.i64).pair ((Ty.int IntKind.i64).pair ((Ty.int IntKind.i64).pair Ty.unit)))).sl (Md.bor true false) l'), (23, AV.v ((Ty.int IntKind.i64).pair ((Ty.int IntKind.i64).pair ((Ty.int IntKind.i64).pair ((Ty.int IntKind.i64).pair Ty.unit)))).sl (Md.bor true false) l'), (24, AV.v (Ty.int IntKind.i64) (Md.bor false true) (↑l'.length : Int)), (25, AV.v (Ty.int IntKind.i64) (Md.bor false true) t25)]⟩
theorem ref_TermsCheck_h0 (nf : Nat)  (vars : Int) (l' : List (Int × Int × Int × Int × Unit)) (fu : Nat) (t25 : Int) : iter (fu + 1) (LC.F tab (ref_TermsCheck_phi nf) (fun _ F => iter nf F) ref_TermsCheck_keep 0 (ref_TermsCheck_L0 nf )) (ref_TermsCheck_m0 vars l' t25) = ref_TermsCheck_b0 nf  vars l'  (fun t25 => iter fu (LC.F tab (ref_TermsCheck_phi nf) (fun _ F => iter nf F) ref_TermsCheck_keep 0 (ref_TermsCheck_L0 nf )) (ref_TermsCheck_m0 vars l' t25)) t25 := by kernel_rfl
theorem ref_TermsCheck_e0 (nf : Nat)  (vars : Int) (l' : List (Int × Int × Int × Int × Unit)) : ∀ (fu : Nat) (t25 : Int), iter fu (LC.F tab (ref_TermsCheck_phi nf) (fun _ F => iter nf F) ref_TermsCheck_keep 0 (ref_TermsCheck_L0 nf )) (ref_TermsCheck_m0 vars l' t25) = ref_TermsCheck_l0 nf vars l'  fu t25 := by
  intro fu
  induction fu with
  | zero => intros; rfl
  | succ fu ih =>
    intro t25
    rw [ref_TermsCheck_h0 nf  vars l' fu t25]
    simp only [ih]
    rfl
theorem ref_TermsCheck_eq (nf : Nat) (vars : Int) (l' : List (Int × Int × Int × Int × Unit)) : runF tab (ref_TermsCheck_phi nf) ref_TermsCheck_keep nf [PT.val (Ty.int IntKind.i64) (Md.bor true false), PT.val ((Ty.int IntKind.i64).pair ((Ty.int IntKind.i64).pair ((Ty.int IntKind.i64).pair ((Ty.int IntKind.i64).pair Ty.unit)))).sl (Md.bor true false)] [(Ty.int IntKind.i64, Md.bor false true)] (resL (none) Try.f21) (codeOf Try.f21) ⟨vars, l', ()⟩ = ref_TermsCheck_f nf vars l' := by
  have h : runF tab (ref_TermsCheck_phi nf) ref_TermsCheck_keep nf [PT.val (Ty.int IntKind.i64) (Md.bor true false), PT.val ((Ty.int IntKind.i64).pair ((Ty.int IntKind.i64).pair ((Ty.int IntKind.i64).pair ((Ty.int IntKind.i64).pair Ty.unit)))).sl (Md.bor true false)] [(Ty.int IntKind.i64, Md.bor false true)] (resL (none) Try.f21) (codeOf Try.f21) ⟨vars, l', ()⟩ = ref_TermsCheck_p nf (fun p0 p1 v0 => iter nf (LC.F tab (ref_TermsCheck_phi nf) (fun _ F => iter nf F) ref_TermsCheck_keep 0 (ref_TermsCheck_L0 nf)) (ref_TermsCheck_m0 p0 p1 v0)) vars l' := by kernel_rfl
  rw [h]
  simp only [ref_TermsCheck_e0]
  rfl
def ref_TermsCheck_F (nf : Nat) (x : denPs [.val (.int .i64) (.bor true false), .val (.sl (.pair (.int .i64) (.pair (.int .i64) (.pair (.int .i64) (.pair (.int .i64) (.unit)))))) (.bor true false)]) : Option (denL [(.int .i64, .bor false true)]) := ref_TermsCheck_f nf x.1 x.2.1
def ref_TermsCheck_C (nf : Nat) : Contract := ⟨[.val (.int .i64) (.bor true false), .val (.sl (.pair (.int .i64) (.pair (.int .i64) (.pair (.int .i64) (.pair (.int .i64) (.unit)))))) (.bor true false)], [(.int .i64, .bor false true)], ref_TermsCheck_F nf, none⟩
theorem ref_TermsCheck_ok : FnOK Try.prog 21 := ⟨Try.f21, codeOf Try.f21, Try.func21, by kernel_rfl, by kernel_rfl⟩
theorem ref_TermsCheck_holds (nf : Nat) : Contract.Holds Try.prog 21 (ref_TermsCheck_C nf) :=
  fn_holds (Φ := ref_TermsCheck_phi nf) (keep := ref_TermsCheck_keep) (n := nf) ⟨tabs.1, tabs.2, (ctx_cons ref_Inside_ok (ref_Inside_holds nf) (ctx_cons ref_Value_ok (ref_Value_holds nf) ctx_nil)), mixed⟩ (fn := Try.f21) ⟨Try.func21, by kernel_rfl, by kernel_rfl, by kernel_rfl⟩ (fun x => ref_TermsCheck_eq nf x.1 x.2.1)

/-! codemason codemasonref.Op -/
def ref_Op_phi (nf : Nat) : Nat → Option Contract := lookC []
def ref_Op_keep : Nat → List Nat := lookK []
def ref_Op_p (nf : Nat)  (op : Int) (a : Int) (b : Int) : Option (Int × Unit) :=
  bif op == 3 then
    bif op == 4 then
      bif op == 5 then
        bif op == 6 then
          bif decide (a < b) then
            some ((Int.tmod 1 256, ()))
          else
            some (((IntKind.i64.wrap (a * b)).tmod 256, ()))
        else
          some (((IntKind.i64.wrap (a * b)).tmod 256, ()))
      else
        bif op == 6 then
          bif decide (a < b) then
            some ((Int.tmod 1 256, ()))
          else
            some (((IntKind.i64.wrap (IntKind.i64.wrap (a - b) + 256)).tmod 256, ()))
        else
          some (((IntKind.i64.wrap (IntKind.i64.wrap (a - b) + 256)).tmod 256, ()))
    else
      bif op == 5 then
        bif op == 6 then
          bif decide (a < b) then
            some ((Int.tmod 1 256, ()))
          else
            some (((IntKind.i64.wrap (a * b)).tmod 256, ()))
        else
          some (((IntKind.i64.wrap (a * b)).tmod 256, ()))
      else
        bif op == 6 then
          bif decide (a < b) then
            some ((Int.tmod 1 256, ()))
          else
            some (((IntKind.i64.wrap (a + b)).tmod 256, ()))
        else
          some (((IntKind.i64.wrap (a + b)).tmod 256, ()))
  else
    bif op == 4 then
      bif op == 5 then
        bif op == 6 then
          bif decide (a < b) then
            some ((Int.tmod 1 256, ()))
          else
            some (((IntKind.i64.wrap (a * b)).tmod 256, ()))
        else
          some (((IntKind.i64.wrap (a * b)).tmod 256, ()))
      else
        bif op == 6 then
          bif decide (a < b) then
            some ((Int.tmod 1 256, ()))
          else
            some (((IntKind.i64.wrap (IntKind.i64.wrap (a - b) + 256)).tmod 256, ()))
        else
          some (((IntKind.i64.wrap (IntKind.i64.wrap (a - b) + 256)).tmod 256, ()))
    else
      bif op == 5 then
        bif op == 6 then
          bif decide (a < b) then
            some ((Int.tmod 1 256, ()))
          else
            some (((IntKind.i64.wrap (a * b)).tmod 256, ()))
        else
          some (((IntKind.i64.wrap (a * b)).tmod 256, ()))
      else
        bif op == 6 then
          bif decide (a < b) then
            some ((Int.tmod 1 256, ()))
          else
            some ((Int.tmod 0 256, ()))
        else
          some ((Int.tmod 0 256, ()))
def ref_Op_f (nf : Nat) (op : Int) (a : Int) (b : Int) : Option (Int × Unit) := ref_Op_p nf  op a b
theorem ref_Op_eq (nf : Nat) (op : Int) (a : Int) (b : Int) : runF tab (ref_Op_phi nf) ref_Op_keep nf [PT.val (Ty.int IntKind.i64) (Md.bor true false), PT.val (Ty.int IntKind.i64) (Md.bor true false), PT.val (Ty.int IntKind.i64) (Md.bor true false)] [(Ty.int IntKind.i64, Md.bor false true)] (resL (none) Try.f68) (codeOf Try.f68) ⟨op, a, b, ()⟩ = ref_Op_f nf op a b := by
  have h : runF tab (ref_Op_phi nf) ref_Op_keep nf [PT.val (Ty.int IntKind.i64) (Md.bor true false), PT.val (Ty.int IntKind.i64) (Md.bor true false), PT.val (Ty.int IntKind.i64) (Md.bor true false)] [(Ty.int IntKind.i64, Md.bor false true)] (resL (none) Try.f68) (codeOf Try.f68) ⟨op, a, b, ()⟩ = ref_Op_p nf  op a b := by kernel_rfl
  exact h
def ref_Op_F (nf : Nat) (x : denPs [.val (.int .i64) (.bor true false), .val (.int .i64) (.bor true false), .val (.int .i64) (.bor true false)]) : Option (denL [(.int .i64, .bor false true)]) := ref_Op_f nf x.1 x.2.1 x.2.2.1
def ref_Op_C (nf : Nat) : Contract := ⟨[.val (.int .i64) (.bor true false), .val (.int .i64) (.bor true false), .val (.int .i64) (.bor true false)], [(.int .i64, .bor false true)], ref_Op_F nf, none⟩
theorem ref_Op_ok : FnOK Try.prog 68 := ⟨Try.f68, codeOf Try.f68, Try.func68, by kernel_rfl, by kernel_rfl⟩
theorem ref_Op_holds (nf : Nat) : Contract.Holds Try.prog 68 (ref_Op_C nf) :=
  fn_holds (Φ := ref_Op_phi nf) (keep := ref_Op_keep) (n := nf) ⟨tabs.1, tabs.2, ctx_nil, mixed⟩ (fn := Try.f68) ⟨Try.func68, by kernel_rfl, by kernel_rfl, by kernel_rfl⟩ (fun x => ref_Op_eq nf x.1 x.2.1 x.2.2.1)

/-! codemason codemasonref.Term -/
def ref_Term_phi (nf : Nat) : Nat → Option Contract := lookC [(68, ref_Op_C nf)]
def ref_Term_keep : Nat → List Nat := lookK [(0, [0, 1, 5, 10, 11, 12, 13])]
def ref_Term_b0 (nf : Nat) (l' : List (Int × Int × Int × Int × Unit)) (have' : List Int) (g0 : List Int → Int → Option (Int × Unit)) (v : List Int) (t13 : Int) : Option (Int × Unit) :=
  bif decide (t13 < (↑l'.length : Int)) then
    bif inb t13 l'.length then
      bif (l'.getD t13.toNat (0, 0, 0, 0, ())).fst == 1 then
        bif inb t13 v.length then
          g0 (v.set t13.toNat (l'.getD t13.toNat (0, 0, 0, 0, ())).snd.snd.snd.fst) (IntKind.i64.wrap (t13 + 1))
        else
          none
      else
        bif (l'.getD t13.toNat (0, 0, 0, 0, ())).fst == 2 then
          bif inb (l'.getD t13.toNat (0, 0, 0, 0, ())).snd.snd.snd.fst have'.length then
            bif inb t13 v.length then
              g0 (v.set t13.toNat (have'.getD (Int.toNat (l'.getD t13.toNat (0, 0, 0, 0, ())).snd.snd.snd.fst) 0)) (IntKind.i64.wrap (t13 + 1))
            else
              none
          else
            none
        else
          bif inb (l'.getD t13.toNat (0, 0, 0, 0, ())).snd.fst v.length then
            bif inb (l'.getD t13.toNat (0, 0, 0, 0, ())).snd.snd.fst v.length then
              Option.bind (ref_Op_f nf ((l'.getD t13.toNat (0, 0, 0, 0, ())).fst) (v.getD (Int.toNat (l'.getD t13.toNat (0, 0, 0, 0, ())).snd.fst) 0) (v.getD (Int.toNat (l'.getD t13.toNat (0, 0, 0, 0, ())).snd.snd.fst) 0)) fun r =>
              bif inb t13 v.length then
                g0 (v.set t13.toNat r.fst) (IntKind.i64.wrap (t13 + 1))
              else
                none
            else
              none
          else
            none
    else
      none
  else
    bif inb (IntKind.i64.wrap ((↑l'.length : Int) - 1)) v.length then
      some ((v.getD (IntKind.i64.wrap ((↑l'.length : Int) - 1)).toNat 0, ()))
    else
      none
def ref_Term_p (nf : Nat) (l0 : List (Int × Int × Int × Int × Unit) → List Int → List Int → Int → Option (Int × Unit)) (l' : List (Int × Int × Int × Int × Unit)) (have' : List Int) : Option (Int × Unit) :=
  bif decide (0 ≤ (↑l'.length : Int)) && decide ((↑l'.length : Int) ≤ (↑l'.length : Int)) && decide ((↑l'.length : Int) ≤ (↑lim : Int)) then
    l0 l' have' (List.replicate (↑l'.length : Int).toNat 0) 0
  else
    none
def ref_Term_l0 (nf : Nat) (l' : List (Int × Int × Int × Int × Unit)) (have' : List Int) : Nat → List Int → Int → Option (Int × Unit)
  | 0, _, _ => none
  | fu + 1, v, t13 => ref_Term_b0 nf  l' have'  (ref_Term_l0 nf l' have'  fu) v t13
def ref_Term_f (nf : Nat) (l' : List (Int × Int × Int × Int × Unit)) (have' : List Int) : Option (Int × Unit) := ref_Term_p nf (fun p0 p1 v0 v1 => ref_Term_l0 nf p0 p1 nf v0 v1) l' have'
noncomputable def ref_Term_L0 (nf : Nat) : LC (Int × Unit) := theL (findL tab (ref_Term_phi nf) (fun _ F => iter nf F) ref_Term_keep 0 0 (codeOf Try.f26) (fin tab [(Ty.int IntKind.i64, Md.bor false true)] (resL (none) Try.f26)) (fun _ _ => none) (fin tab [(Ty.int IntKind.i64, Md.bor false true)] (resL (none) Try.f26)))
def ref_Term_m0 (l' : List (Int × Int × Int × Int × Unit)) (have' : List Int) (v : List Int) (t13 : Int) : St := ⟨fresh, [(0, AV.v ((Ty.int IntKind.i64).pair ((Ty.int IntKind.i64).pair ((Ty.int IntKind.i64).pair ((Ty.int IntKind.i64).pair Ty.unit)))).sl (Md.bor true false) l'), (1, AV.v (Ty.int IntKind.i64).sl (Md.bor true false) have'), (5, AV.ow 500005 (Ty.int IntKind.i64).sl (Md.own false (Md.bor false false)) v), (10, AV.dead), (11, AV.v ((Ty.int IntKind.i64).pair ((Ty.int IntKind.i64).pair ((Ty.int IntKind.i64).pair ((Ty.int IntKind.i64).pair Ty.unit)))).sl (Md.bor true false) l'), (12, AV.v (Ty.int IntKind.i64) (Md.bor false true) (↑l'.length : Int)), (13, AV.v (Ty.int IntKind.i64) (Md.bor false true) t13)]⟩
theorem ref_Term_h0 (nf : Nat)  (l' : List (Int × Int × Int × Int × Unit)) (have' : List Int) (fu : Nat) (v : List Int) (t13 : Int) : iter (fu + 1) (LC.F tab (ref_Term_phi nf) (fun _ F => iter nf F) ref_Term_keep 0 (ref_Term_L0 nf )) (ref_Term_m0 l' have' v t13) = ref_Term_b0 nf  l' have'  (fun v t13 => iter fu (LC.F tab (ref_Term_phi nf) (fun _ F => iter nf F) ref_Term_keep 0 (ref_Term_L0 nf )) (ref_Term_m0 l' have' v t13)) v t13 := by kernel_rfl
theorem ref_Term_e0 (nf : Nat)  (l' : List (Int × Int × Int × Int × Unit)) (have' : List Int) : ∀ (fu : Nat) (v : List Int) (t13 : Int), iter fu (LC.F tab (ref_Term_phi nf) (fun _ F => iter nf F) ref_Term_keep 0 (ref_Term_L0 nf )) (ref_Term_m0 l' have' v t13) = ref_Term_l0 nf l' have'  fu v t13 := by
  intro fu
  induction fu with
  | zero => intros; rfl
  | succ fu ih =>
    intro v t13
    rw [ref_Term_h0 nf  l' have' fu v t13]
    simp only [ih]
    rfl
theorem ref_Term_eq (nf : Nat) (l' : List (Int × Int × Int × Int × Unit)) (have' : List Int) : runF tab (ref_Term_phi nf) ref_Term_keep nf [PT.val ((Ty.int IntKind.i64).pair ((Ty.int IntKind.i64).pair ((Ty.int IntKind.i64).pair ((Ty.int IntKind.i64).pair Ty.unit)))).sl (Md.bor true false), PT.val (Ty.int IntKind.i64).sl (Md.bor true false)] [(Ty.int IntKind.i64, Md.bor false true)] (resL (none) Try.f26) (codeOf Try.f26) ⟨l', have', ()⟩ = ref_Term_f nf l' have' := by
  have h : runF tab (ref_Term_phi nf) ref_Term_keep nf [PT.val ((Ty.int IntKind.i64).pair ((Ty.int IntKind.i64).pair ((Ty.int IntKind.i64).pair ((Ty.int IntKind.i64).pair Ty.unit)))).sl (Md.bor true false), PT.val (Ty.int IntKind.i64).sl (Md.bor true false)] [(Ty.int IntKind.i64, Md.bor false true)] (resL (none) Try.f26) (codeOf Try.f26) ⟨l', have', ()⟩ = ref_Term_p nf (fun p0 p1 v0 v1 => iter nf (LC.F tab (ref_Term_phi nf) (fun _ F => iter nf F) ref_Term_keep 0 (ref_Term_L0 nf)) (ref_Term_m0 p0 p1 v0 v1)) l' have' := by kernel_rfl
  rw [h]
  simp only [ref_Term_e0]
  rfl
def ref_Term_F (nf : Nat) (x : denPs [.val (.sl (.pair (.int .i64) (.pair (.int .i64) (.pair (.int .i64) (.pair (.int .i64) (.unit)))))) (.bor true false), .val (.sl (.int .i64)) (.bor true false)]) : Option (denL [(.int .i64, .bor false true)]) := ref_Term_f nf x.1 x.2.1
def ref_Term_C (nf : Nat) : Contract := ⟨[.val (.sl (.pair (.int .i64) (.pair (.int .i64) (.pair (.int .i64) (.pair (.int .i64) (.unit)))))) (.bor true false), .val (.sl (.int .i64)) (.bor true false)], [(.int .i64, .bor false true)], ref_Term_F nf, none⟩
theorem ref_Term_ok : FnOK Try.prog 26 := ⟨Try.f26, codeOf Try.f26, Try.func26, by kernel_rfl, by kernel_rfl⟩
theorem ref_Term_holds (nf : Nat) : Contract.Holds Try.prog 26 (ref_Term_C nf) :=
  fn_holds (Φ := ref_Term_phi nf) (keep := ref_Term_keep) (n := nf) ⟨tabs.1, tabs.2, (ctx_cons ref_Op_ok (ref_Op_holds nf) ctx_nil), mixed⟩ (fn := Try.f26) ⟨Try.func26, by kernel_rfl, by kernel_rfl, by kernel_rfl⟩ (fun x => ref_Term_eq nf x.1 x.2.1)

/-! codemason codemasonref.HaveCheck -/
def ref_HaveCheck_phi (nf : Nat) : Nat → Option Contract := lookC [(56, ref_Value_C nf)]
def ref_HaveCheck_keep : Nat → List Nat := lookK [(0, [1, 11, 12, 13])]
def ref_HaveCheck_b0 (nf : Nat) (have' : List Int) (g0 : Int → Option (Int × Unit)) (t13 : Int) : Option (Int × Unit) :=
  bif decide (t13 < (↑have'.length : Int)) then
    bif inb t13 have'.length then
      Option.bind (ref_Value_f nf (have'.getD t13.toNat 0)) fun r =>
      bif !r.fst then
        some ((4, ()))
      else
        g0 (IntKind.i64.wrap (t13 + 1))
    else
      none
  else
    some ((0, ()))
def ref_HaveCheck_p (nf : Nat) (l0 : List Int → Int → Option (Int × Unit)) (vars : Int) (have' : List Int) : Option (Int × Unit) :=
  bif (↑have'.length : Int) != vars then
    some ((3, ()))
  else
    l0 have' 0
def ref_HaveCheck_l0 (nf : Nat) (have' : List Int) : Nat → Int → Option (Int × Unit)
  | 0, _ => none
  | fu + 1, t13 => ref_HaveCheck_b0 nf  have'  (ref_HaveCheck_l0 nf have'  fu) t13
def ref_HaveCheck_f (nf : Nat) (vars : Int) (have' : List Int) : Option (Int × Unit) := ref_HaveCheck_p nf (fun p0 v0 => ref_HaveCheck_l0 nf p0 nf v0) vars have'
noncomputable def ref_HaveCheck_L0 (nf : Nat) : LC (Int × Unit) := theL (findL tab (ref_HaveCheck_phi nf) (fun _ F => iter nf F) ref_HaveCheck_keep 0 0 (codeOf Try.f28) (fin tab [(Ty.int IntKind.i64, Md.bor false true)] (resL (none) Try.f28)) (fun _ _ => none) (fin tab [(Ty.int IntKind.i64, Md.bor false true)] (resL (none) Try.f28)))
def ref_HaveCheck_m0 (have' : List Int) (t13 : Int) : St := ⟨fresh, [(1, AV.v (Ty.int IntKind.i64).sl (Md.bor true false) have'), (11, AV.v (Ty.int IntKind.i64).sl (Md.bor true false) have'), (12, AV.v (Ty.int IntKind.i64) (Md.bor false true) (↑have'.length : Int)), (13, AV.v (Ty.int IntKind.i64) (Md.bor false true) t13)]⟩
theorem ref_HaveCheck_h0 (nf : Nat)  (have' : List Int) (fu : Nat) (t13 : Int) : iter (fu + 1) (LC.F tab (ref_HaveCheck_phi nf) (fun _ F => iter nf F) ref_HaveCheck_keep 0 (ref_HaveCheck_L0 nf )) (ref_HaveCheck_m0 have' t13) = ref_HaveCheck_b0 nf  have'  (fun t13 => iter fu (LC.F tab (ref_HaveCheck_phi nf) (fun _ F => iter nf F) ref_HaveCheck_keep 0 (ref_HaveCheck_L0 nf )) (ref_HaveCheck_m0 have' t13)) t13 := by kernel_rfl
theorem ref_HaveCheck_e0 (nf : Nat)  (have' : List Int) : ∀ (fu : Nat) (t13 : Int), iter fu (LC.F tab (ref_HaveCheck_phi nf) (fun _ F => iter nf F) ref_HaveCheck_keep 0 (ref_HaveCheck_L0 nf )) (ref_HaveCheck_m0 have' t13) = ref_HaveCheck_l0 nf have'  fu t13 := by
  intro fu
  induction fu with
  | zero => intros; rfl
  | succ fu ih =>
    intro t13
    rw [ref_HaveCheck_h0 nf  have' fu t13]
    simp only [ih]
    rfl
theorem ref_HaveCheck_eq (nf : Nat) (vars : Int) (have' : List Int) : runF tab (ref_HaveCheck_phi nf) ref_HaveCheck_keep nf [PT.val (Ty.int IntKind.i64) (Md.bor true false), PT.val (Ty.int IntKind.i64).sl (Md.bor true false)] [(Ty.int IntKind.i64, Md.bor false true)] (resL (none) Try.f28) (codeOf Try.f28) ⟨vars, have', ()⟩ = ref_HaveCheck_f nf vars have' := by
  have h : runF tab (ref_HaveCheck_phi nf) ref_HaveCheck_keep nf [PT.val (Ty.int IntKind.i64) (Md.bor true false), PT.val (Ty.int IntKind.i64).sl (Md.bor true false)] [(Ty.int IntKind.i64, Md.bor false true)] (resL (none) Try.f28) (codeOf Try.f28) ⟨vars, have', ()⟩ = ref_HaveCheck_p nf (fun p0 v0 => iter nf (LC.F tab (ref_HaveCheck_phi nf) (fun _ F => iter nf F) ref_HaveCheck_keep 0 (ref_HaveCheck_L0 nf)) (ref_HaveCheck_m0 p0 v0)) vars have' := by kernel_rfl
  rw [h]
  simp only [ref_HaveCheck_e0]
  rfl
def ref_HaveCheck_F (nf : Nat) (x : denPs [.val (.int .i64) (.bor true false), .val (.sl (.int .i64)) (.bor true false)]) : Option (denL [(.int .i64, .bor false true)]) := ref_HaveCheck_f nf x.1 x.2.1
def ref_HaveCheck_C (nf : Nat) : Contract := ⟨[.val (.int .i64) (.bor true false), .val (.sl (.int .i64)) (.bor true false)], [(.int .i64, .bor false true)], ref_HaveCheck_F nf, none⟩
theorem ref_HaveCheck_ok : FnOK Try.prog 28 := ⟨Try.f28, codeOf Try.f28, Try.func28, by kernel_rfl, by kernel_rfl⟩
theorem ref_HaveCheck_holds (nf : Nat) : Contract.Holds Try.prog 28 (ref_HaveCheck_C nf) :=
  fn_holds (Φ := ref_HaveCheck_phi nf) (keep := ref_HaveCheck_keep) (n := nf) ⟨tabs.1, tabs.2, (ctx_cons ref_Value_ok (ref_Value_holds nf) ctx_nil), mixed⟩ (fn := Try.f28) ⟨Try.func28, by kernel_rfl, by kernel_rfl, by kernel_rfl⟩ (fun x => ref_HaveCheck_eq nf x.1 x.2.1)

/-! codemason codemasonref.StepCheck -/
def ref_StepCheck_phi (nf : Nat) : Nat → Option Contract := lookC [(50, ref_Inside_C nf), (56, ref_Value_C nf)]
def ref_StepCheck_keep : Nat → List Nat := lookK []
def ref_StepCheck_p (nf : Nat)  (vars : Int) (regs : Int) (s : Int × Int × Int × Int × Int × Unit) : Option (Int × Unit) :=
  bif decide (s.fst < 1) then
    some ((6, ()))
  else
    bif decide (s.fst > 6) then
      some ((6, ()))
    else
      bif s.fst == 1 then
        Option.bind (ref_Value_f nf s.snd.snd.snd.snd.fst) fun r =>
        bif !r.fst then
          some ((4, ()))
        else
          bif s.fst == 2 then
            Option.bind (ref_Inside_f nf vars ([s.snd.snd.snd.snd.fst])) fun r2 =>
            bif !r2.fst then
              some ((4, ()))
            else
              Option.bind (ref_Inside_f nf regs ([s.snd.fst])) fun r3 =>
              bif !r3.fst then
                some ((2, ()))
              else
                bif decide (s.fst ≥ 3) then
                  Option.bind (ref_Inside_f nf regs ([s.snd.snd.fst, s.snd.snd.snd.fst])) fun r4 =>
                  bif !r4.fst then
                    some ((2, ()))
                  else
                    some ((0, ()))
                else
                  some ((0, ()))
          else
            Option.bind (ref_Inside_f nf regs ([s.snd.fst])) fun r5 =>
            bif !r5.fst then
              some ((2, ()))
            else
              bif decide (s.fst ≥ 3) then
                Option.bind (ref_Inside_f nf regs ([s.snd.snd.fst, s.snd.snd.snd.fst])) fun r6 =>
                bif !r6.fst then
                  some ((2, ()))
                else
                  some ((0, ()))
              else
                some ((0, ()))
      else
        bif s.fst == 2 then
          Option.bind (ref_Inside_f nf vars ([s.snd.snd.snd.snd.fst])) fun r7 =>
          bif !r7.fst then
            some ((4, ()))
          else
            Option.bind (ref_Inside_f nf regs ([s.snd.fst])) fun r8 =>
            bif !r8.fst then
              some ((2, ()))
            else
              bif decide (s.fst ≥ 3) then
                Option.bind (ref_Inside_f nf regs ([s.snd.snd.fst, s.snd.snd.snd.fst])) fun r9 =>
                bif !r9.fst then
                  some ((2, ()))
                else
                  some ((0, ()))
              else
                some ((0, ()))
        else
          Option.bind (ref_Inside_f nf regs ([s.snd.fst])) fun r10 =>
          bif !r10.fst then
            some ((2, ()))
          else
            bif decide (s.fst ≥ 3) then
              Option.bind (ref_Inside_f nf regs ([s.snd.snd.fst, s.snd.snd.snd.fst])) fun r11 =>
              bif !r11.fst then
                some ((2, ()))
              else
                some ((0, ()))
            else
              some ((0, ()))
def ref_StepCheck_f (nf : Nat) (vars : Int) (regs : Int) (s : Int × Int × Int × Int × Int × Unit) : Option (Int × Unit) := ref_StepCheck_p nf  vars regs s
theorem ref_StepCheck_eq (nf : Nat) (vars : Int) (regs : Int) (s : Int × Int × Int × Int × Int × Unit) : runF tab (ref_StepCheck_phi nf) ref_StepCheck_keep nf [PT.val (Ty.int IntKind.i64) (Md.bor true false), PT.val (Ty.int IntKind.i64) (Md.bor true false), PT.val ((Ty.int IntKind.i64).pair ((Ty.int IntKind.i64).pair ((Ty.int IntKind.i64).pair ((Ty.int IntKind.i64).pair ((Ty.int IntKind.i64).pair Ty.unit))))) (Md.bor true false)] [(Ty.int IntKind.i64, Md.bor false true)] (resL (none) Try.f75) (codeOf Try.f75) ⟨vars, regs, s, ()⟩ = ref_StepCheck_f nf vars regs s := by
  have h : runF tab (ref_StepCheck_phi nf) ref_StepCheck_keep nf [PT.val (Ty.int IntKind.i64) (Md.bor true false), PT.val (Ty.int IntKind.i64) (Md.bor true false), PT.val ((Ty.int IntKind.i64).pair ((Ty.int IntKind.i64).pair ((Ty.int IntKind.i64).pair ((Ty.int IntKind.i64).pair ((Ty.int IntKind.i64).pair Ty.unit))))) (Md.bor true false)] [(Ty.int IntKind.i64, Md.bor false true)] (resL (none) Try.f75) (codeOf Try.f75) ⟨vars, regs, s, ()⟩ = ref_StepCheck_p nf  vars regs s := by kernel_rfl
  exact h
def ref_StepCheck_F (nf : Nat) (x : denPs [.val (.int .i64) (.bor true false), .val (.int .i64) (.bor true false), .val (.pair (.int .i64) (.pair (.int .i64) (.pair (.int .i64) (.pair (.int .i64) (.pair (.int .i64) (.unit)))))) (.bor true false)]) : Option (denL [(.int .i64, .bor false true)]) := ref_StepCheck_f nf x.1 x.2.1 x.2.2.1
def ref_StepCheck_C (nf : Nat) : Contract := ⟨[.val (.int .i64) (.bor true false), .val (.int .i64) (.bor true false), .val (.pair (.int .i64) (.pair (.int .i64) (.pair (.int .i64) (.pair (.int .i64) (.pair (.int .i64) (.unit)))))) (.bor true false)], [(.int .i64, .bor false true)], ref_StepCheck_F nf, none⟩
theorem ref_StepCheck_ok : FnOK Try.prog 75 := ⟨Try.f75, codeOf Try.f75, Try.func75, by kernel_rfl, by kernel_rfl⟩
theorem ref_StepCheck_holds (nf : Nat) : Contract.Holds Try.prog 75 (ref_StepCheck_C nf) :=
  fn_holds (Φ := ref_StepCheck_phi nf) (keep := ref_StepCheck_keep) (n := nf) ⟨tabs.1, tabs.2, (ctx_cons ref_Inside_ok (ref_Inside_holds nf) (ctx_cons ref_Value_ok (ref_Value_holds nf) ctx_nil)), mixed⟩ (fn := Try.f75) ⟨Try.func75, by kernel_rfl, by kernel_rfl, by kernel_rfl⟩ (fun x => ref_StepCheck_eq nf x.1 x.2.1 x.2.2.1)

/-! codemason codemasonref.ProgCheck -/
def ref_ProgCheck_phi (nf : Nat) : Nat → Option Contract := lookC [(50, ref_Inside_C nf), (75, ref_StepCheck_C nf)]
def ref_ProgCheck_keep : Nat → List Nat := lookK [(4, [0, 1, 9, 45, 46, 47, 51, 52, 53, 54]), (2, [0, 1, 45, 46, 47]), (0, [0, 1, 5, 13, 14, 15])]
def ref_ProgCheck_b0 (nf : Nat) (l2 : Int → List (List (Int × Int × Int × Int × Int × Unit) × Int × Int × Int × Unit) → Int → Option (Int × Unit)) (vars : Int) (p : List (List (Int × Int × Int × Int × Int × Unit) × Int × Int × Int × Unit)) (g0 : Int → Int → Option (Int × Unit)) (many : Int) (t15 : Int) : Option (Int × Unit) :=
  bif decide (t15 < (↑p.length : Int)) then
    bif inb t15 p.length then
      g0 (IntKind.i64.wrap (many + (↑(List.length (p.getD t15.toNat ([], 0, 0, 0, ())).fst) : Int))) (IntKind.i64.wrap (t15 + 1))
    else
      none
  else
    bif decide (vars < 1) then
      some ((1, ()))
    else
      bif decide (vars > 6) then
        some ((1, ()))
      else
        bif decide ((↑p.length : Int) < 1) then
          some ((1, ()))
        else
          bif decide ((↑p.length : Int) > 8) then
            some ((1, ()))
          else
            bif decide (many > 20) then
              some ((1, ()))
            else
              l2 vars p 0
def ref_ProgCheck_b2 (nf : Nat) (l4 : Int → List (List (Int × Int × Int × Int × Int × Unit) × Int × Int × Int × Unit) → Int → List (Int × Int × Int × Int × Int × Unit) × Int × Int × Int × Unit → Int → Option (Int × Unit)) (vars : Int) (p : List (List (Int × Int × Int × Int × Int × Unit) × Int × Int × Int × Unit)) (g2 : Int → Option (Int × Unit)) (t47 : Int) : Option (Int × Unit) :=
  bif decide (t47 < (↑p.length : Int)) then
    bif inb t47 p.length then
      l4 vars p t47 (p.getD t47.toNat ([], 0, 0, 0, ())) 0
    else
      none
  else
    some ((0, ()))
def ref_ProgCheck_b4 (nf : Nat) (vars : Int) (p : List (List (Int × Int × Int × Int × Int × Unit) × Int × Int × Int × Unit)) (t47 : Int) (g2 : Int → Option (Int × Unit)) (g4 : List (Int × Int × Int × Int × Int × Unit) × Int × Int × Int × Unit → Int → Option (Int × Unit)) (b : List (Int × Int × Int × Int × Int × Unit) × Int × Int × Int × Unit) (t54 : Int) : Option (Int × Unit) :=
  bif decide (t54 < (↑(List.length (p.getD t47.toNat ([], 0, 0, 0, ())).fst) : Int)) then
    bif inb t54 (List.length (p.getD t47.toNat ([], 0, 0, 0, ())).fst) then
      Option.bind (ref_StepCheck_f nf vars vars (List.getD (p.getD t47.toNat ([], 0, 0, 0, ())).fst t54.toNat (0, 0, 0, 0, 0, ()))) fun r =>
      bif r.fst != 0 then
        some ((r.fst, ()))
      else
        g4 b (IntKind.i64.wrap (t54 + 1))
    else
      none
  else
    bif b.snd.fst != (-1) then
      Option.bind (ref_Inside_f nf vars ([b.snd.fst])) fun r2 =>
      bif !r2.fst then
        some ((2, ()))
      else
        bif b.snd.fst == (-1) then
          bif b.snd.snd.fst != (-1) then
            Option.bind (ref_Inside_f nf ((↑p.length : Int)) ([b.snd.snd.fst])) fun r3 =>
            bif !r3.fst then
              some ((3, ()))
            else
              bif decide (b.snd.fst ≥ 0) then
                Option.bind (ref_Inside_f nf ((↑p.length : Int)) ([b.snd.snd.fst, b.snd.snd.snd.fst])) fun r4 =>
                bif !r4.fst then
                  some ((3, ()))
                else
                  g2 (IntKind.i64.wrap (t47 + 1))
              else
                g2 (IntKind.i64.wrap (t47 + 1))
          else
            bif decide (b.snd.fst ≥ 0) then
              Option.bind (ref_Inside_f nf ((↑p.length : Int)) ([b.snd.snd.fst, b.snd.snd.snd.fst])) fun r5 =>
              bif !r5.fst then
                some ((3, ()))
              else
                g2 (IntKind.i64.wrap (t47 + 1))
            else
              g2 (IntKind.i64.wrap (t47 + 1))
        else
          bif decide (b.snd.fst ≥ 0) then
            Option.bind (ref_Inside_f nf ((↑p.length : Int)) ([b.snd.snd.fst, b.snd.snd.snd.fst])) fun r6 =>
            bif !r6.fst then
              some ((3, ()))
            else
              g2 (IntKind.i64.wrap (t47 + 1))
          else
            g2 (IntKind.i64.wrap (t47 + 1))
    else
      bif b.snd.fst == (-1) then
        bif b.snd.snd.fst != (-1) then
          Option.bind (ref_Inside_f nf ((↑p.length : Int)) ([b.snd.snd.fst])) fun r7 =>
          bif !r7.fst then
            some ((3, ()))
          else
            bif decide (b.snd.fst ≥ 0) then
              Option.bind (ref_Inside_f nf ((↑p.length : Int)) ([b.snd.snd.fst, b.snd.snd.snd.fst])) fun r8 =>
              bif !r8.fst then
                some ((3, ()))
              else
                g2 (IntKind.i64.wrap (t47 + 1))
            else
              g2 (IntKind.i64.wrap (t47 + 1))
        else
          bif decide (b.snd.fst ≥ 0) then
            Option.bind (ref_Inside_f nf ((↑p.length : Int)) ([b.snd.snd.fst, b.snd.snd.snd.fst])) fun r9 =>
            bif !r9.fst then
              some ((3, ()))
            else
              g2 (IntKind.i64.wrap (t47 + 1))
          else
            g2 (IntKind.i64.wrap (t47 + 1))
      else
        bif decide (b.snd.fst ≥ 0) then
          Option.bind (ref_Inside_f nf ((↑p.length : Int)) ([b.snd.snd.fst, b.snd.snd.snd.fst])) fun r10 =>
          bif !r10.fst then
            some ((3, ()))
          else
            g2 (IntKind.i64.wrap (t47 + 1))
        else
          g2 (IntKind.i64.wrap (t47 + 1))
def ref_ProgCheck_p (nf : Nat) (l0 : Int → List (List (Int × Int × Int × Int × Int × Unit) × Int × Int × Int × Unit) → Int → Int → Option (Int × Unit)) (vars : Int) (p : List (List (Int × Int × Int × Int × Int × Unit) × Int × Int × Int × Unit)) : Option (Int × Unit) :=
  l0 vars p 0 0
def ref_ProgCheck_l4 (nf : Nat) (vars : Int) (p : List (List (Int × Int × Int × Int × Int × Unit) × Int × Int × Int × Unit)) (t47 : Int) (g2 : Int → Option (Int × Unit)) : Nat → List (Int × Int × Int × Int × Int × Unit) × Int × Int × Int × Unit → Int → Option (Int × Unit)
  | 0, _, _ => none
  | fu + 1, b, t54 => ref_ProgCheck_b4 nf  vars p t47 g2 (ref_ProgCheck_l4 nf vars p t47 g2 fu) b t54
def ref_ProgCheck_l2 (nf : Nat) (vars : Int) (p : List (List (Int × Int × Int × Int × Int × Unit) × Int × Int × Int × Unit)) : Nat → Int → Option (Int × Unit)
  | 0, _ => none
  | fu + 1, t47 => ref_ProgCheck_b2 nf (fun _ _ p2 v0 v1 => ref_ProgCheck_l4 nf vars p p2 (fun t47 => ref_ProgCheck_l2 nf vars p  fu t47) nf v0 v1) vars p  (ref_ProgCheck_l2 nf vars p  fu) t47
def ref_ProgCheck_l0 (nf : Nat) (vars : Int) (p : List (List (Int × Int × Int × Int × Int × Unit) × Int × Int × Int × Unit)) : Nat → Int → Int → Option (Int × Unit)
  | 0, _, _ => none
  | fu + 1, many, t15 => ref_ProgCheck_b0 nf (fun _ _ v0 => ref_ProgCheck_l2 nf vars p  nf v0) vars p  (ref_ProgCheck_l0 nf vars p  fu) many t15
def ref_ProgCheck_f (nf : Nat) (vars : Int) (p : List (List (Int × Int × Int × Int × Int × Unit) × Int × Int × Int × Unit)) : Option (Int × Unit) := ref_ProgCheck_p nf (fun p0 p1 v0 v1 => ref_ProgCheck_l0 nf p0 p1 nf v0 v1) vars p
noncomputable def ref_ProgCheck_L0 (nf : Nat) : LC (Int × Unit) := theL (findL tab (ref_ProgCheck_phi nf) (fun _ F => iter nf F) ref_ProgCheck_keep 0 0 (codeOf Try.f83) (fin tab [(Ty.int IntKind.i64, Md.bor false true)] (resL (none) Try.f83)) (fun _ _ => none) (fin tab [(Ty.int IntKind.i64, Md.bor false true)] (resL (none) Try.f83)))
def ref_ProgCheck_m0 (vars : Int) (p : List (List (Int × Int × Int × Int × Int × Unit) × Int × Int × Int × Unit)) (many : Int) (t15 : Int) : St := ⟨fresh, [(0, AV.v (Ty.int IntKind.i64) (Md.bor false true) vars), (1, AV.v (((Ty.int IntKind.i64).pair ((Ty.int IntKind.i64).pair ((Ty.int IntKind.i64).pair ((Ty.int IntKind.i64).pair ((Ty.int IntKind.i64).pair Ty.unit))))).sl.pair ((Ty.int IntKind.i64).pair ((Ty.int IntKind.i64).pair ((Ty.int IntKind.i64).pair Ty.unit)))).sl (Md.bor true false) p), (5, AV.v (Ty.int IntKind.i64) (Md.bor false true) many), (13, AV.v (((Ty.int IntKind.i64).pair ((Ty.int IntKind.i64).pair ((Ty.int IntKind.i64).pair ((Ty.int IntKind.i64).pair ((Ty.int IntKind.i64).pair Ty.unit))))).sl.pair ((Ty.int IntKind.i64).pair ((Ty.int IntKind.i64).pair ((Ty.int IntKind.i64).pair Ty.unit)))).sl (Md.bor true false) p), (14, AV.v (Ty.int IntKind.i64) (Md.bor false true) (↑p.length : Int)), (15, AV.v (Ty.int IntKind.i64) (Md.bor false true) t15)]⟩
noncomputable def ref_ProgCheck_L2 (nf : Nat) : LC (Int × Unit) := theL (findL tab (ref_ProgCheck_phi nf) (fun _ F => iter nf F) ref_ProgCheck_keep 2 0 (codeOf Try.f83) (fin tab [(Ty.int IntKind.i64, Md.bor false true)] (resL (none) Try.f83)) (fun _ _ => none) (fin tab [(Ty.int IntKind.i64, Md.bor false true)] (resL (none) Try.f83)))
def ref_ProgCheck_m2 (vars : Int) (p : List (List (Int × Int × Int × Int × Int × Unit) × Int × Int × Int × Unit)) (t47 : Int) : St := ⟨fresh, [(0, AV.v (Ty.int IntKind.i64) (Md.bor false true) vars), (1, AV.v (((Ty.int IntKind.i64).pair ((Ty.int IntKind.i64).pair ((Ty.int IntKind.i64).pair ((Ty.int IntKind.i64).pair ((Ty.int IntKind.i64).pair Ty.unit))))).sl.pair ((Ty.int IntKind.i64).pair ((Ty.int IntKind.i64).pair ((Ty.int IntKind.i64).pair Ty.unit)))).sl (Md.bor true false) p), (45, AV.v (((Ty.int IntKind.i64).pair ((Ty.int IntKind.i64).pair ((Ty.int IntKind.i64).pair ((Ty.int IntKind.i64).pair ((Ty.int IntKind.i64).pair Ty.unit))))).sl.pair ((Ty.int IntKind.i64).pair ((Ty.int IntKind.i64).pair ((Ty.int IntKind.i64).pair Ty.unit)))).sl (Md.bor true false) p), (46, AV.v (Ty.int IntKind.i64) (Md.bor false true) (↑p.length : Int)), (47, AV.v (Ty.int IntKind.i64) (Md.bor false true) t47)]⟩
noncomputable def ref_ProgCheck_L4 (nf : Nat) (G2 : St → Option (Int × Unit)) : LC (Int × Unit) := theL (findL tab (ref_ProgCheck_phi nf) (fun _ F => iter nf F) ref_ProgCheck_keep 4 2 (ref_ProgCheck_L2 nf ).c (fun st => norm (ref_ProgCheck_keep 2) st G2) (ref_ProgCheck_L2 nf ).Kx (ref_ProgCheck_L2 nf ).Kr)
def ref_ProgCheck_m4 (vars : Int) (p : List (List (Int × Int × Int × Int × Int × Unit) × Int × Int × Int × Unit)) (t47 : Int) (b : List (Int × Int × Int × Int × Int × Unit) × Int × Int × Int × Unit) (t54 : Int) : St := ⟨fresh, [(0, AV.v (Ty.int IntKind.i64) (Md.bor false true) vars), (1, AV.v (((Ty.int IntKind.i64).pair ((Ty.int IntKind.i64).pair ((Ty.int IntKind.i64).pair ((Ty.int IntKind.i64).pair ((Ty.int IntKind.i64).pair Ty.unit))))).sl.pair ((Ty.int IntKind.i64).pair ((Ty.int IntKind.i64).pair ((Ty.int IntKind.i64).pair Ty.unit)))).sl (Md.bor true false) p), (9, AV.box 9 500009 (((Ty.int IntKind.i64).pair ((Ty.int IntKind.i64).pair ((Ty.int IntKind.i64).pair ((Ty.int IntKind.i64).pair ((Ty.int IntKind.i64).pair Ty.unit))))).sl.pair ((Ty.int IntKind.i64).pair ((Ty.int IntKind.i64).pair ((Ty.int IntKind.i64).pair Ty.unit)))) (Md.bor true false) b), (45, AV.v (((Ty.int IntKind.i64).pair ((Ty.int IntKind.i64).pair ((Ty.int IntKind.i64).pair ((Ty.int IntKind.i64).pair ((Ty.int IntKind.i64).pair Ty.unit))))).sl.pair ((Ty.int IntKind.i64).pair ((Ty.int IntKind.i64).pair ((Ty.int IntKind.i64).pair Ty.unit)))).sl (Md.bor true false) p), (46, AV.v (Ty.int IntKind.i64) (Md.bor false true) (↑p.length : Int)), (47, AV.v (Ty.int IntKind.i64) (Md.bor false true) t47), (51, AV.pl 9 9 [Stp.dr, Stp.fld 0]), (52, AV.v ((Ty.int IntKind.i64).pair ((Ty.int IntKind.i64).pair ((Ty.int IntKind.i64).pair ((Ty.int IntKind.i64).pair ((Ty.int IntKind.i64).pair Ty.unit))))).sl (Md.bor true false) (p.getD t47.toNat ([], 0, 0, 0, ())).fst), (53, AV.v (Ty.int IntKind.i64) (Md.bor false true) (↑(List.length (p.getD t47.toNat ([], 0, 0, 0, ())).fst) : Int)), (54, AV.v (Ty.int IntKind.i64) (Md.bor false true) t54)]⟩
theorem ref_ProgCheck_h4 (nf : Nat) (G2 : St → Option (Int × Unit)) (vars : Int) (p : List (List (Int × Int × Int × Int × Int × Unit) × Int × Int × Int × Unit)) (t47 : Int) (fu : Nat) (b : List (Int × Int × Int × Int × Int × Unit) × Int × Int × Int × Unit) (t54 : Int) : iter (fu + 1) (LC.F tab (ref_ProgCheck_phi nf) (fun _ F => iter nf F) ref_ProgCheck_keep 4 (ref_ProgCheck_L4 nf G2)) (ref_ProgCheck_m4 vars p t47 b t54) = ref_ProgCheck_b4 nf  vars p t47 (fun t47 => G2 (ref_ProgCheck_m2 vars p t47)) (fun b t54 => iter fu (LC.F tab (ref_ProgCheck_phi nf) (fun _ F => iter nf F) ref_ProgCheck_keep 4 (ref_ProgCheck_L4 nf G2)) (ref_ProgCheck_m4 vars p t47 b t54)) b t54 := by kernel_rfl
theorem ref_ProgCheck_e4 (nf : Nat) (G2 : St → Option (Int × Unit)) (vars : Int) (p : List (List (Int × Int × Int × Int × Int × Unit) × Int × Int × Int × Unit)) (t47 : Int) : ∀ (fu : Nat) (b : List (Int × Int × Int × Int × Int × Unit) × Int × Int × Int × Unit) (t54 : Int), iter fu (LC.F tab (ref_ProgCheck_phi nf) (fun _ F => iter nf F) ref_ProgCheck_keep 4 (ref_ProgCheck_L4 nf G2)) (ref_ProgCheck_m4 vars p t47 b t54) = ref_ProgCheck_l4 nf vars p t47 (fun t47 => G2 (ref_ProgCheck_m2 vars p t47)) fu b t54 := by
  intro fu
  induction fu with
  | zero => intros; rfl
  | succ fu ih =>
    intro b t54
    rw [ref_ProgCheck_h4 nf G2 vars p t47 fu b t54]
    simp only [ih]
    rfl
theorem ref_ProgCheck_h2 (nf : Nat)  (vars : Int) (p : List (List (Int × Int × Int × Int × Int × Unit) × Int × Int × Int × Unit)) (fu : Nat) (t47 : Int) : iter (fu + 1) (LC.F tab (ref_ProgCheck_phi nf) (fun _ F => iter nf F) ref_ProgCheck_keep 2 (ref_ProgCheck_L2 nf )) (ref_ProgCheck_m2 vars p t47) = ref_ProgCheck_b2 nf (fun _ _ p2 v0 v1 => iter nf (LC.F tab (ref_ProgCheck_phi nf) (fun _ F => iter nf F) ref_ProgCheck_keep 4 (ref_ProgCheck_L4 nf (iter fu (LC.F tab (ref_ProgCheck_phi nf) (fun _ F => iter nf F) ref_ProgCheck_keep 2 (ref_ProgCheck_L2 nf ))))) (ref_ProgCheck_m4 vars p p2 v0 v1)) vars p  (fun t47 => iter fu (LC.F tab (ref_ProgCheck_phi nf) (fun _ F => iter nf F) ref_ProgCheck_keep 2 (ref_ProgCheck_L2 nf )) (ref_ProgCheck_m2 vars p t47)) t47 := by kernel_rfl
theorem ref_ProgCheck_e2 (nf : Nat)  (vars : Int) (p : List (List (Int × Int × Int × Int × Int × Unit) × Int × Int × Int × Unit)) : ∀ (fu : Nat) (t47 : Int), iter fu (LC.F tab (ref_ProgCheck_phi nf) (fun _ F => iter nf F) ref_ProgCheck_keep 2 (ref_ProgCheck_L2 nf )) (ref_ProgCheck_m2 vars p t47) = ref_ProgCheck_l2 nf vars p  fu t47 := by
  intro fu
  induction fu with
  | zero => intros; rfl
  | succ fu ih =>
    intro t47
    rw [ref_ProgCheck_h2 nf  vars p fu t47]
    simp only [ih, ref_ProgCheck_e4]
    rfl
theorem ref_ProgCheck_h0 (nf : Nat)  (vars : Int) (p : List (List (Int × Int × Int × Int × Int × Unit) × Int × Int × Int × Unit)) (fu : Nat) (many : Int) (t15 : Int) : iter (fu + 1) (LC.F tab (ref_ProgCheck_phi nf) (fun _ F => iter nf F) ref_ProgCheck_keep 0 (ref_ProgCheck_L0 nf )) (ref_ProgCheck_m0 vars p many t15) = ref_ProgCheck_b0 nf (fun _ _ v0 => iter nf (LC.F tab (ref_ProgCheck_phi nf) (fun _ F => iter nf F) ref_ProgCheck_keep 2 (ref_ProgCheck_L2 nf )) (ref_ProgCheck_m2 vars p v0)) vars p  (fun many t15 => iter fu (LC.F tab (ref_ProgCheck_phi nf) (fun _ F => iter nf F) ref_ProgCheck_keep 0 (ref_ProgCheck_L0 nf )) (ref_ProgCheck_m0 vars p many t15)) many t15 := by kernel_rfl
theorem ref_ProgCheck_e0 (nf : Nat)  (vars : Int) (p : List (List (Int × Int × Int × Int × Int × Unit) × Int × Int × Int × Unit)) : ∀ (fu : Nat) (many : Int) (t15 : Int), iter fu (LC.F tab (ref_ProgCheck_phi nf) (fun _ F => iter nf F) ref_ProgCheck_keep 0 (ref_ProgCheck_L0 nf )) (ref_ProgCheck_m0 vars p many t15) = ref_ProgCheck_l0 nf vars p  fu many t15 := by
  intro fu
  induction fu with
  | zero => intros; rfl
  | succ fu ih =>
    intro many t15
    rw [ref_ProgCheck_h0 nf  vars p fu many t15]
    simp only [ih, ref_ProgCheck_e2]
    rfl
theorem ref_ProgCheck_eq (nf : Nat) (vars : Int) (p : List (List (Int × Int × Int × Int × Int × Unit) × Int × Int × Int × Unit)) : runF tab (ref_ProgCheck_phi nf) ref_ProgCheck_keep nf [PT.val (Ty.int IntKind.i64) (Md.bor true false), PT.val (((Ty.int IntKind.i64).pair ((Ty.int IntKind.i64).pair ((Ty.int IntKind.i64).pair ((Ty.int IntKind.i64).pair ((Ty.int IntKind.i64).pair Ty.unit))))).sl.pair ((Ty.int IntKind.i64).pair ((Ty.int IntKind.i64).pair ((Ty.int IntKind.i64).pair Ty.unit)))).sl (Md.bor true false)] [(Ty.int IntKind.i64, Md.bor false true)] (resL (none) Try.f83) (codeOf Try.f83) ⟨vars, p, ()⟩ = ref_ProgCheck_f nf vars p := by
  have h : runF tab (ref_ProgCheck_phi nf) ref_ProgCheck_keep nf [PT.val (Ty.int IntKind.i64) (Md.bor true false), PT.val (((Ty.int IntKind.i64).pair ((Ty.int IntKind.i64).pair ((Ty.int IntKind.i64).pair ((Ty.int IntKind.i64).pair ((Ty.int IntKind.i64).pair Ty.unit))))).sl.pair ((Ty.int IntKind.i64).pair ((Ty.int IntKind.i64).pair ((Ty.int IntKind.i64).pair Ty.unit)))).sl (Md.bor true false)] [(Ty.int IntKind.i64, Md.bor false true)] (resL (none) Try.f83) (codeOf Try.f83) ⟨vars, p, ()⟩ = ref_ProgCheck_p nf (fun p0 p1 v0 v1 => iter nf (LC.F tab (ref_ProgCheck_phi nf) (fun _ F => iter nf F) ref_ProgCheck_keep 0 (ref_ProgCheck_L0 nf)) (ref_ProgCheck_m0 p0 p1 v0 v1)) vars p := by kernel_rfl
  rw [h]
  simp only [ref_ProgCheck_e0]
  rfl
def ref_ProgCheck_F (nf : Nat) (x : denPs [.val (.int .i64) (.bor true false), .val (.sl (.pair (.sl (.pair (.int .i64) (.pair (.int .i64) (.pair (.int .i64) (.pair (.int .i64) (.pair (.int .i64) (.unit))))))) (.pair (.int .i64) (.pair (.int .i64) (.pair (.int .i64) (.unit)))))) (.bor true false)]) : Option (denL [(.int .i64, .bor false true)]) := ref_ProgCheck_f nf x.1 x.2.1
def ref_ProgCheck_C (nf : Nat) : Contract := ⟨[.val (.int .i64) (.bor true false), .val (.sl (.pair (.sl (.pair (.int .i64) (.pair (.int .i64) (.pair (.int .i64) (.pair (.int .i64) (.pair (.int .i64) (.unit))))))) (.pair (.int .i64) (.pair (.int .i64) (.pair (.int .i64) (.unit)))))) (.bor true false)], [(.int .i64, .bor false true)], ref_ProgCheck_F nf, none⟩
theorem ref_ProgCheck_ok : FnOK Try.prog 83 := ⟨Try.f83, codeOf Try.f83, Try.func83, by kernel_rfl, by kernel_rfl⟩
theorem ref_ProgCheck_holds (nf : Nat) : Contract.Holds Try.prog 83 (ref_ProgCheck_C nf) :=
  fn_holds (Φ := ref_ProgCheck_phi nf) (keep := ref_ProgCheck_keep) (n := nf) ⟨tabs.1, tabs.2, (ctx_cons ref_Inside_ok (ref_Inside_holds nf) (ctx_cons ref_StepCheck_ok (ref_StepCheck_holds nf) ctx_nil)), mixed⟩ (fn := Try.f83) ⟨Try.func83, by kernel_rfl, by kernel_rfl, by kernel_rfl⟩ (fun x => ref_ProgCheck_eq nf x.1 x.2.1)

/-! codemason codemasonlaw.codeCode -/
def law_codeCode_tab : Tab := ⟨lookT [(2, .int .i64), (3, .int .i64), (4, .bool), (5, .int .u8), (6, .int .u8), (7, .pair (.int .i64) (.pair (.int .i64) (.pair (.bool) (.pair (.int .u8) (.unit))))), (8, .pair (.int .i64) (.pair (.int .i64) (.pair (.bool) (.pair (.int .u8) (.unit))))), (12, .int .u64), (21, .int .i32), (22, .sl (.pair (.int .i64) (.pair (.int .i64) (.pair (.int .i64) (.pair (.int .i64) (.unit)))))), (23, .int .i64), (26, .int .u32), (29, .sl (.int .i64)), (31, .pair (.int .i64) (.pair (.int .i64) (.pair (.int .i64) (.pair (.int .i64) (.unit))))), (32, .pair (.int .i64) (.pair (.int .i64) (.pair (.int .i64) (.pair (.int .i64) (.unit))))), (33, .int .u64), (44, .sl (.pair (.int .i64) (.pair (.int .i64) (.pair (.int .i64) (.pair (.int .i64) (.pair (.int .i64) (.unit))))))), (55, .sl (.pair (.int .i64) (.pair (.int .i64) (.unit)))), (65, .pair (.int .i64) (.pair (.int .i64) (.unit))), (66, .pair (.int .i64) (.pair (.int .i64) (.unit))), (86, .sl (.pair (.int .i64) (.pair (.int .i64) (.pair (.int .i64) (.pair (.int .i64) (.unit)))))), (94, .pair (.int .i64) (.pair (.int .i64) (.pair (.int .i64) (.pair (.int .i64) (.unit))))), (95, .pair (.int .i64) (.pair (.int .i64) (.pair (.int .i64) (.pair (.int .i64) (.unit))))), (96, .sl (.bool)), (101, .pair (.int .i64) (.pair (.int .i64) (.pair (.int .i64) (.pair (.int .i64) (.pair (.int .i64) (.unit)))))), (102, .pair (.int .i64) (.pair (.int .i64) (.pair (.int .i64) (.pair (.int .i64) (.pair (.int .i64) (.unit)))))), (104, .pair (.sl (.pair (.int .i64) (.pair (.int .i64) (.pair (.int .i64) (.pair (.int .i64) (.unit)))))) (.pair (.sl (.int .i64)) (.pair (.sl (.pair (.int .i64) (.pair (.int .i64) (.pair (.int .i64) (.pair (.int .i64) (.pair (.int .i64) (.unit))))))) (.unit)))), (105, .pair (.sl (.pair (.int .i64) (.pair (.int .i64) (.pair (.int .i64) (.pair (.int .i64) (.unit)))))) (.pair (.sl (.int .i64)) (.pair (.sl (.pair (.int .i64) (.pair (.int .i64) (.pair (.int .i64) (.pair (.int .i64) (.pair (.int .i64) (.unit))))))) (.unit)))), (119, .pair (.sl (.pair (.int .i64) (.pair (.int .i64) (.pair (.int .i64) (.pair (.int .i64) (.pair (.int .i64) (.unit))))))) (.pair (.int .i64) (.pair (.int .i64) (.pair (.int .i64) (.unit))))), (120, .pair (.sl (.pair (.int .i64) (.pair (.int .i64) (.pair (.int .i64) (.pair (.int .i64) (.pair (.int .i64) (.unit))))))) (.pair (.int .i64) (.pair (.int .i64) (.pair (.int .i64) (.unit))))), (121, .sl (.pair (.sl (.pair (.int .i64) (.pair (.int .i64) (.pair (.int .i64) (.pair (.int .i64) (.pair (.int .i64) (.unit))))))) (.pair (.int .i64) (.pair (.int .i64) (.pair (.int .i64) (.unit)))))), (142, .int .u8), (143, .int .u8), (146, .int .i32), (147, .int .i32)], lookM [(2, .bor false true), (3, .bor false true), (4, .bor false true), (5, .bor false true), (6, .bor false true), (7, .bor false true), (8, .bor false true), (12, .bor false true), (21, .bor false true), (22, .own false (.bor false false)), (23, .bor false true), (26, .bor false true), (29, .own false (.bor false false)), (31, .bor false true), (32, .bor false true), (33, .bor false true), (44, .own false (.bor false false)), (55, .own false (.bor false false)), (65, .bor false true), (66, .bor false true), (86, .own false (.bor false false)), (94, .bor false true), (95, .bor false true), (96, .own false (.bor false false)), (101, .bor false true), (102, .bor false true), (104, .bor true false), (105, .bor true false), (119, .bor true false), (120, .bor true false), (121, .own false (.pair (.bor true false) (.bor false true))), (142, .bor false true), (143, .bor false true), (146, .bor false true), (147, .bor false true)], hasT [138], hasT [9, 10, 11]⟩
theorem law_codeCode_tabs : TabOK Try.prog law_codeCode_tab ∧ EqOK Try.prog law_codeCode_tab := tab_ok (by kernel_rfl) (by kernel_rfl)
def law_codeCode_phi (nf : Nat) : Nat → Option Contract := lookC [(83, ref_ProgCheck_C nf)]
def law_codeCode_keep : Nat → List Nat := lookK []
def law_codeCode_p (nf : Nat)  (vars : Int) (code' : List (Int × Int × Int × Int × Int × Unit)) : Option (Int × Unit) :=
  Option.bind (ref_ProgCheck_f nf vars ([(code', (-1), (-1), 0, ())])) fun r =>
  some ((r.fst, ()))
def law_codeCode_f (nf : Nat) (vars : Int) (code' : List (Int × Int × Int × Int × Int × Unit)) : Option (Int × Unit) := law_codeCode_p nf  vars code'
theorem law_codeCode_eq (nf : Nat) (vars : Int) (code' : List (Int × Int × Int × Int × Int × Unit)) : runF law_codeCode_tab (law_codeCode_phi nf) law_codeCode_keep nf [PT.val (Ty.int IntKind.i64) (Md.bor true false), PT.val ((Ty.int IntKind.i64).pair ((Ty.int IntKind.i64).pair ((Ty.int IntKind.i64).pair ((Ty.int IntKind.i64).pair ((Ty.int IntKind.i64).pair Ty.unit))))).sl (Md.bor true false)] [(Ty.int IntKind.i64, Md.bor false true)] (resL (none) Try.f55) (codeOf Try.f55) ⟨vars, code', ()⟩ = law_codeCode_f nf vars code' := by
  have h : runF law_codeCode_tab (law_codeCode_phi nf) law_codeCode_keep nf [PT.val (Ty.int IntKind.i64) (Md.bor true false), PT.val ((Ty.int IntKind.i64).pair ((Ty.int IntKind.i64).pair ((Ty.int IntKind.i64).pair ((Ty.int IntKind.i64).pair ((Ty.int IntKind.i64).pair Ty.unit))))).sl (Md.bor true false)] [(Ty.int IntKind.i64, Md.bor false true)] (resL (none) Try.f55) (codeOf Try.f55) ⟨vars, code', ()⟩ = law_codeCode_p nf  vars code' := by kernel_rfl
  exact h
def law_codeCode_F (nf : Nat) (x : denPs [.val (.int .i64) (.bor true false), .val (.sl (.pair (.int .i64) (.pair (.int .i64) (.pair (.int .i64) (.pair (.int .i64) (.pair (.int .i64) (.unit))))))) (.bor true false)]) : Option (denL [(.int .i64, .bor false true)]) := law_codeCode_f nf x.1 x.2.1
def law_codeCode_C (nf : Nat) : Contract := ⟨[.val (.int .i64) (.bor true false), .val (.sl (.pair (.int .i64) (.pair (.int .i64) (.pair (.int .i64) (.pair (.int .i64) (.pair (.int .i64) (.unit))))))) (.bor true false)], [(.int .i64, .bor false true)], law_codeCode_F nf, none⟩
theorem law_codeCode_ok : FnOK Try.prog 55 := ⟨Try.f55, codeOf Try.f55, Try.func55, by kernel_rfl, by kernel_rfl⟩
theorem law_codeCode_holds (nf : Nat) : Contract.Holds Try.prog 55 (law_codeCode_C nf) :=
  fn_holds (Φ := law_codeCode_phi nf) (keep := law_codeCode_keep) (n := nf) ⟨law_codeCode_tabs.1, law_codeCode_tabs.2, (ctx_cons ref_ProgCheck_ok (ref_ProgCheck_holds nf) ctx_nil), mixed⟩ (fn := Try.f55) ⟨Try.func55, by kernel_rfl, by kernel_rfl, by kernel_rfl⟩ (fun x => law_codeCode_eq nf x.1 x.2.1)

/-! codemason codemasonref.Doing -/
def ref_Doing_phi (nf : Nat) : Nat → Option Contract := lookC [(68, ref_Op_C nf)]
def ref_Doing_keep : Nat → List Nat := lookK [(0, [0, 1, 10, 11, 12, 13])]
def ref_Doing_b0 (nf : Nat) (code' : List (Int × Int × Int × Int × Int × Unit)) (g0 : List Int → Int → Option (List Int × Unit)) (v2 : List Int) (t13 : Int) : Option (List Int × Unit) :=
  bif decide (t13 < (↑code'.length : Int)) then
    bif inb t13 code'.length then
      bif (code'.getD t13.toNat (0, 0, 0, 0, 0, ())).fst == 2 then
        bif inb (code'.getD t13.toNat (0, 0, 0, 0, 0, ())).snd.snd.snd.snd.fst v2.length then
          bif decide ((code'.getD t13.toNat (0, 0, 0, 0, 0, ())).fst ≥ 3) then
            bif inb (code'.getD t13.toNat (0, 0, 0, 0, 0, ())).snd.snd.fst v2.length then
              bif inb (code'.getD t13.toNat (0, 0, 0, 0, 0, ())).snd.snd.snd.fst v2.length then
                Option.bind (ref_Op_f nf ((code'.getD t13.toNat (0, 0, 0, 0, 0, ())).fst) (v2.getD (Int.toNat (code'.getD t13.toNat (0, 0, 0, 0, 0, ())).snd.snd.fst) 0) (v2.getD (Int.toNat (code'.getD t13.toNat (0, 0, 0, 0, 0, ())).snd.snd.snd.fst) 0)) fun r =>
                bif inb (code'.getD t13.toNat (0, 0, 0, 0, 0, ())).snd.fst v2.length then
                  g0 (v2.set (Int.toNat (code'.getD t13.toNat (0, 0, 0, 0, 0, ())).snd.fst) r.fst) (IntKind.i64.wrap (t13 + 1))
                else
                  none
              else
                none
            else
              none
          else
            bif inb (code'.getD t13.toNat (0, 0, 0, 0, 0, ())).snd.fst v2.length then
              g0 (v2.set (Int.toNat (code'.getD t13.toNat (0, 0, 0, 0, 0, ())).snd.fst) (v2.getD (Int.toNat (code'.getD t13.toNat (0, 0, 0, 0, 0, ())).snd.snd.snd.snd.fst) 0)) (IntKind.i64.wrap (t13 + 1))
            else
              none
        else
          none
      else
        bif decide ((code'.getD t13.toNat (0, 0, 0, 0, 0, ())).fst ≥ 3) then
          bif inb (code'.getD t13.toNat (0, 0, 0, 0, 0, ())).snd.snd.fst v2.length then
            bif inb (code'.getD t13.toNat (0, 0, 0, 0, 0, ())).snd.snd.snd.fst v2.length then
              Option.bind (ref_Op_f nf ((code'.getD t13.toNat (0, 0, 0, 0, 0, ())).fst) (v2.getD (Int.toNat (code'.getD t13.toNat (0, 0, 0, 0, 0, ())).snd.snd.fst) 0) (v2.getD (Int.toNat (code'.getD t13.toNat (0, 0, 0, 0, 0, ())).snd.snd.snd.fst) 0)) fun r2 =>
              bif inb (code'.getD t13.toNat (0, 0, 0, 0, 0, ())).snd.fst v2.length then
                g0 (v2.set (Int.toNat (code'.getD t13.toNat (0, 0, 0, 0, 0, ())).snd.fst) r2.fst) (IntKind.i64.wrap (t13 + 1))
              else
                none
            else
              none
          else
            none
        else
          bif inb (code'.getD t13.toNat (0, 0, 0, 0, 0, ())).snd.fst v2.length then
            g0 (v2.set (Int.toNat (code'.getD t13.toNat (0, 0, 0, 0, 0, ())).snd.fst) (code'.getD t13.toNat (0, 0, 0, 0, 0, ())).snd.snd.snd.snd.fst) (IntKind.i64.wrap (t13 + 1))
          else
            none
    else
      none
  else
    some ((v2, ()))
def ref_Doing_p (nf : Nat) (l0 : List (Int × Int × Int × Int × Int × Unit) → List Int → Int → Option (List Int × Unit)) (code' : List (Int × Int × Int × Int × Int × Unit)) (v : List Int) : Option (List Int × Unit) :=
  bif bimp false !v.isEmpty && ((List.length ([] : List Unit)) + v.length).ble lim then
    l0 code' ([] ++ v) 0
  else
    none
def ref_Doing_l0 (nf : Nat) (code' : List (Int × Int × Int × Int × Int × Unit)) : Nat → List Int → Int → Option (List Int × Unit)
  | 0, _, _ => none
  | fu + 1, v2, t13 => ref_Doing_b0 nf  code'  (ref_Doing_l0 nf code'  fu) v2 t13
def ref_Doing_f (nf : Nat) (code' : List (Int × Int × Int × Int × Int × Unit)) (v : List Int) : Option (List Int × Unit) := ref_Doing_p nf (fun p0 v0 v1 => ref_Doing_l0 nf p0 nf v0 v1) code' v
noncomputable def ref_Doing_L0 (nf : Nat) : LC (List Int × Unit) := theL (findL tab (ref_Doing_phi nf) (fun _ F => iter nf F) ref_Doing_keep 0 0 (codeOf Try.f57) (fin tab [((Ty.int IntKind.i64).sl, Md.own false (Md.bor false false))] (resL (none) Try.f57)) (fun _ _ => none) (fin tab [((Ty.int IntKind.i64).sl, Md.own false (Md.bor false false))] (resL (none) Try.f57)))
def ref_Doing_m0 (code' : List (Int × Int × Int × Int × Int × Unit)) (v2 : List Int) (t13 : Int) : St := ⟨fresh, [(0, AV.v ((Ty.int IntKind.i64).pair ((Ty.int IntKind.i64).pair ((Ty.int IntKind.i64).pair ((Ty.int IntKind.i64).pair ((Ty.int IntKind.i64).pair Ty.unit))))).sl (Md.bor true false) code'), (1, AV.ow 500001 (Ty.int IntKind.i64).sl (Md.own false (Md.bor false false)) v2), (10, AV.dead), (11, AV.v ((Ty.int IntKind.i64).pair ((Ty.int IntKind.i64).pair ((Ty.int IntKind.i64).pair ((Ty.int IntKind.i64).pair ((Ty.int IntKind.i64).pair Ty.unit))))).sl (Md.bor true false) code'), (12, AV.v (Ty.int IntKind.i64) (Md.bor false true) (↑code'.length : Int)), (13, AV.v (Ty.int IntKind.i64) (Md.bor false true) t13)]⟩
theorem ref_Doing_h0 (nf : Nat)  (code' : List (Int × Int × Int × Int × Int × Unit)) (fu : Nat) (v2 : List Int) (t13 : Int) : iter (fu + 1) (LC.F tab (ref_Doing_phi nf) (fun _ F => iter nf F) ref_Doing_keep 0 (ref_Doing_L0 nf )) (ref_Doing_m0 code' v2 t13) = ref_Doing_b0 nf  code'  (fun v2 t13 => iter fu (LC.F tab (ref_Doing_phi nf) (fun _ F => iter nf F) ref_Doing_keep 0 (ref_Doing_L0 nf )) (ref_Doing_m0 code' v2 t13)) v2 t13 := by kernel_rfl
theorem ref_Doing_e0 (nf : Nat)  (code' : List (Int × Int × Int × Int × Int × Unit)) : ∀ (fu : Nat) (v2 : List Int) (t13 : Int), iter fu (LC.F tab (ref_Doing_phi nf) (fun _ F => iter nf F) ref_Doing_keep 0 (ref_Doing_L0 nf )) (ref_Doing_m0 code' v2 t13) = ref_Doing_l0 nf code'  fu v2 t13 := by
  intro fu
  induction fu with
  | zero => intros; rfl
  | succ fu ih =>
    intro v2 t13
    rw [ref_Doing_h0 nf  code' fu v2 t13]
    simp only [ih]
    rfl
theorem ref_Doing_eq (nf : Nat) (code' : List (Int × Int × Int × Int × Int × Unit)) (v : List Int) : runF tab (ref_Doing_phi nf) ref_Doing_keep nf [PT.val ((Ty.int IntKind.i64).pair ((Ty.int IntKind.i64).pair ((Ty.int IntKind.i64).pair ((Ty.int IntKind.i64).pair ((Ty.int IntKind.i64).pair Ty.unit))))).sl (Md.bor true false), PT.val (Ty.int IntKind.i64).sl (Md.bor true false)] [((Ty.int IntKind.i64).sl, Md.own false (Md.bor false false))] (resL (none) Try.f57) (codeOf Try.f57) ⟨code', v, ()⟩ = ref_Doing_f nf code' v := by
  have h : runF tab (ref_Doing_phi nf) ref_Doing_keep nf [PT.val ((Ty.int IntKind.i64).pair ((Ty.int IntKind.i64).pair ((Ty.int IntKind.i64).pair ((Ty.int IntKind.i64).pair ((Ty.int IntKind.i64).pair Ty.unit))))).sl (Md.bor true false), PT.val (Ty.int IntKind.i64).sl (Md.bor true false)] [((Ty.int IntKind.i64).sl, Md.own false (Md.bor false false))] (resL (none) Try.f57) (codeOf Try.f57) ⟨code', v, ()⟩ = ref_Doing_p nf (fun p0 v0 v1 => iter nf (LC.F tab (ref_Doing_phi nf) (fun _ F => iter nf F) ref_Doing_keep 0 (ref_Doing_L0 nf)) (ref_Doing_m0 p0 v0 v1)) code' v := by kernel_rfl
  rw [h]
  simp only [ref_Doing_e0]
  rfl
def ref_Doing_F (nf : Nat) (x : denPs [.val (.sl (.pair (.int .i64) (.pair (.int .i64) (.pair (.int .i64) (.pair (.int .i64) (.pair (.int .i64) (.unit))))))) (.bor true false), .val (.sl (.int .i64)) (.bor true false)]) : Option (denL [(.sl (.int .i64), .own false (.bor false false))]) := ref_Doing_f nf x.1 x.2.1
def ref_Doing_C (nf : Nat) : Contract := ⟨[.val (.sl (.pair (.int .i64) (.pair (.int .i64) (.pair (.int .i64) (.pair (.int .i64) (.pair (.int .i64) (.unit))))))) (.bor true false), .val (.sl (.int .i64)) (.bor true false)], [(.sl (.int .i64), .own false (.bor false false))], ref_Doing_F nf, none⟩
theorem ref_Doing_ok : FnOK Try.prog 57 := ⟨Try.f57, codeOf Try.f57, Try.func57, by kernel_rfl, by kernel_rfl⟩
theorem ref_Doing_holds (nf : Nat) : Contract.Holds Try.prog 57 (ref_Doing_C nf) :=
  fn_holds (Φ := ref_Doing_phi nf) (keep := ref_Doing_keep) (n := nf) ⟨tabs.1, tabs.2, (ctx_cons ref_Op_ok (ref_Op_holds nf) ctx_nil), mixed⟩ (fn := Try.f57) ⟨Try.func57, by kernel_rfl, by kernel_rfl, by kernel_rfl⟩ (fun x => ref_Doing_eq nf x.1 x.2.1)

/-! codemason term.Check -/
def term_Check_phi (nf : Nat) : Nat → Option Contract := lookC []
def term_Check_keep : Nat → List Nat := lookK [(0, [0, 1, 23, 24, 25])]
def term_Check_b0 (nf : Nat) (vars : Int) (l' : List (Int × Int × Int × Int × Unit)) (g0 : Int → Option (Int × Unit)) (t25 : Int) : Option (Int × Unit) :=
  bif decide (t25 < (↑l'.length : Int)) then
    bif inb t25 l'.length then
      bif decide ((l'.getD t25.toNat (0, 0, 0, 0, ())).fst < 1) then
        some ((6, ()))
      else
        bif decide ((l'.getD t25.toNat (0, 0, 0, 0, ())).fst > 6) then
          some ((6, ()))
        else
          bif (l'.getD t25.toNat (0, 0, 0, 0, ())).fst == 1 then
            bif decide ((l'.getD t25.toNat (0, 0, 0, 0, ())).snd.snd.snd.fst < 0) then
              some ((4, ()))
            else
              bif decide ((l'.getD t25.toNat (0, 0, 0, 0, ())).snd.snd.snd.fst > 255) then
                some ((4, ()))
              else
                bif (l'.getD t25.toNat (0, 0, 0, 0, ())).fst == 2 then
                  bif decide ((l'.getD t25.toNat (0, 0, 0, 0, ())).snd.snd.snd.fst < 0) then
                    some ((4, ()))
                  else
                    bif decide ((l'.getD t25.toNat (0, 0, 0, 0, ())).snd.snd.snd.fst ≥ vars) then
                      some ((4, ()))
                    else
                      bif decide ((l'.getD t25.toNat (0, 0, 0, 0, ())).fst > 2) then
                        bif decide ((if (l'.getD t25.toNat (0, 0, 0, 0, ())).snd.snd.fst < (l'.getD t25.toNat (0, 0, 0, 0, ())).snd.fst then (l'.getD t25.toNat (0, 0, 0, 0, ())).snd.snd.fst else (l'.getD t25.toNat (0, 0, 0, 0, ())).snd.fst) < 0) then
                          some ((2, ()))
                        else
                          bif decide ((if (l'.getD t25.toNat (0, 0, 0, 0, ())).snd.snd.fst > (l'.getD t25.toNat (0, 0, 0, 0, ())).snd.fst then (l'.getD t25.toNat (0, 0, 0, 0, ())).snd.snd.fst else (l'.getD t25.toNat (0, 0, 0, 0, ())).snd.fst) ≥ t25) then
                            some ((2, ()))
                          else
                            g0 (IntKind.i64.wrap (t25 + 1))
                      else
                        g0 (IntKind.i64.wrap (t25 + 1))
                else
                  bif decide ((l'.getD t25.toNat (0, 0, 0, 0, ())).fst > 2) then
                    bif decide ((if (l'.getD t25.toNat (0, 0, 0, 0, ())).snd.snd.fst < (l'.getD t25.toNat (0, 0, 0, 0, ())).snd.fst then (l'.getD t25.toNat (0, 0, 0, 0, ())).snd.snd.fst else (l'.getD t25.toNat (0, 0, 0, 0, ())).snd.fst) < 0) then
                      some ((2, ()))
                    else
                      bif decide ((if (l'.getD t25.toNat (0, 0, 0, 0, ())).snd.snd.fst > (l'.getD t25.toNat (0, 0, 0, 0, ())).snd.fst then (l'.getD t25.toNat (0, 0, 0, 0, ())).snd.snd.fst else (l'.getD t25.toNat (0, 0, 0, 0, ())).snd.fst) ≥ t25) then
                        some ((2, ()))
                      else
                        g0 (IntKind.i64.wrap (t25 + 1))
                  else
                    g0 (IntKind.i64.wrap (t25 + 1))
          else
            bif (l'.getD t25.toNat (0, 0, 0, 0, ())).fst == 2 then
              bif decide ((l'.getD t25.toNat (0, 0, 0, 0, ())).snd.snd.snd.fst < 0) then
                some ((4, ()))
              else
                bif decide ((l'.getD t25.toNat (0, 0, 0, 0, ())).snd.snd.snd.fst ≥ vars) then
                  some ((4, ()))
                else
                  bif decide ((l'.getD t25.toNat (0, 0, 0, 0, ())).fst > 2) then
                    bif decide ((if (l'.getD t25.toNat (0, 0, 0, 0, ())).snd.snd.fst < (l'.getD t25.toNat (0, 0, 0, 0, ())).snd.fst then (l'.getD t25.toNat (0, 0, 0, 0, ())).snd.snd.fst else (l'.getD t25.toNat (0, 0, 0, 0, ())).snd.fst) < 0) then
                      some ((2, ()))
                    else
                      bif decide ((if (l'.getD t25.toNat (0, 0, 0, 0, ())).snd.snd.fst > (l'.getD t25.toNat (0, 0, 0, 0, ())).snd.fst then (l'.getD t25.toNat (0, 0, 0, 0, ())).snd.snd.fst else (l'.getD t25.toNat (0, 0, 0, 0, ())).snd.fst) ≥ t25) then
                        some ((2, ()))
                      else
                        g0 (IntKind.i64.wrap (t25 + 1))
                  else
                    g0 (IntKind.i64.wrap (t25 + 1))
            else
              bif decide ((l'.getD t25.toNat (0, 0, 0, 0, ())).fst > 2) then
                bif decide ((if (l'.getD t25.toNat (0, 0, 0, 0, ())).snd.snd.fst < (l'.getD t25.toNat (0, 0, 0, 0, ())).snd.fst then (l'.getD t25.toNat (0, 0, 0, 0, ())).snd.snd.fst else (l'.getD t25.toNat (0, 0, 0, 0, ())).snd.fst) < 0) then
                  some ((2, ()))
                else
                  bif decide ((if (l'.getD t25.toNat (0, 0, 0, 0, ())).snd.snd.fst > (l'.getD t25.toNat (0, 0, 0, 0, ())).snd.fst then (l'.getD t25.toNat (0, 0, 0, 0, ())).snd.snd.fst else (l'.getD t25.toNat (0, 0, 0, 0, ())).snd.fst) ≥ t25) then
                    some ((2, ()))
                  else
                    g0 (IntKind.i64.wrap (t25 + 1))
              else
                g0 (IntKind.i64.wrap (t25 + 1))
    else
      none
  else
    some ((0, ()))
def term_Check_p (nf : Nat) (l0 : Int → List (Int × Int × Int × Int × Unit) → Int → Option (Int × Unit)) (vars : Int) (l' : List (Int × Int × Int × Int × Unit)) : Option (Int × Unit) :=
  bif decide (vars < 0) then
    some ((1, ()))
  else
    bif decide (vars > 6) then
      some ((1, ()))
    else
      bif (↑l'.length : Int) == 0 then
        some ((1, ()))
      else
        bif decide ((↑l'.length : Int) > 16) then
          some ((1, ()))
        else
          l0 vars l' 0
def term_Check_l0 (nf : Nat) (vars : Int) (l' : List (Int × Int × Int × Int × Unit)) : Nat → Int → Option (Int × Unit)
  | 0, _ => none
  | fu + 1, t25 => term_Check_b0 nf  vars l'  (term_Check_l0 nf vars l'  fu) t25
def term_Check_f (nf : Nat) (vars : Int) (l' : List (Int × Int × Int × Int × Unit)) : Option (Int × Unit) := term_Check_p nf (fun p0 p1 v0 => term_Check_l0 nf p0 p1 nf v0) vars l'
noncomputable def term_Check_L0 (nf : Nat) : LC (Int × Unit) := theL (findL tab (term_Check_phi nf) (fun _ F => iter nf F) term_Check_keep 0 0 (codeOf Try.f20) (fin tab [(Ty.int IntKind.i64, Md.bor false true)] (resL (none) Try.f20)) (fun _ _ => none) (fin tab [(Ty.int IntKind.i64, Md.bor false true)] (resL (none) Try.f20)))
def term_Check_m0 (vars : Int) (l' : List (Int × Int × Int × Int × Unit)) (t25 : Int) : St := ⟨fresh, [(0, AV.v (Ty.int IntKind.i64) (Md.bor false true) vars), (1, AV.v ((Ty.int IntKind.i64).pair ((Ty.int IntKind.i64).pair ((Ty.int IntKind.i64).pair ((Ty.int IntKind.i64).pair Ty.unit)))).sl (Md.bor true false) l'), (23, AV.v ((Ty.int IntKind.i64).pair ((Ty.int IntKind.i64).pair ((Ty.int IntKind.i64).pair ((Ty.int IntKind.i64).pair Ty.unit)))).sl (Md.bor true false) l'), (24, AV.v (Ty.int IntKind.i64) (Md.bor false true) (↑l'.length : Int)), (25, AV.v (Ty.int IntKind.i64) (Md.bor false true) t25)]⟩
theorem term_Check_h0 (nf : Nat)  (vars : Int) (l' : List (Int × Int × Int × Int × Unit)) (fu : Nat) (t25 : Int) : iter (fu + 1) (LC.F tab (term_Check_phi nf) (fun _ F => iter nf F) term_Check_keep 0 (term_Check_L0 nf )) (term_Check_m0 vars l' t25) = term_Check_b0 nf  vars l'  (fun t25 => iter fu (LC.F tab (term_Check_phi nf) (fun _ F => iter nf F) term_Check_keep 0 (term_Check_L0 nf )) (term_Check_m0 vars l' t25)) t25 := by kernel_rfl
theorem term_Check_e0 (nf : Nat)  (vars : Int) (l' : List (Int × Int × Int × Int × Unit)) : ∀ (fu : Nat) (t25 : Int), iter fu (LC.F tab (term_Check_phi nf) (fun _ F => iter nf F) term_Check_keep 0 (term_Check_L0 nf )) (term_Check_m0 vars l' t25) = term_Check_l0 nf vars l'  fu t25 := by
  intro fu
  induction fu with
  | zero => intros; rfl
  | succ fu ih =>
    intro t25
    rw [term_Check_h0 nf  vars l' fu t25]
    simp only [ih]
    rfl
theorem term_Check_eq (nf : Nat) (vars : Int) (l' : List (Int × Int × Int × Int × Unit)) : runF tab (term_Check_phi nf) term_Check_keep nf [PT.val (Ty.int IntKind.i64) (Md.bor true false), PT.val ((Ty.int IntKind.i64).pair ((Ty.int IntKind.i64).pair ((Ty.int IntKind.i64).pair ((Ty.int IntKind.i64).pair Ty.unit)))).sl (Md.bor true false)] [(Ty.int IntKind.i64, Md.bor false true)] (resL (none) Try.f20) (codeOf Try.f20) ⟨vars, l', ()⟩ = term_Check_f nf vars l' := by
  have h : runF tab (term_Check_phi nf) term_Check_keep nf [PT.val (Ty.int IntKind.i64) (Md.bor true false), PT.val ((Ty.int IntKind.i64).pair ((Ty.int IntKind.i64).pair ((Ty.int IntKind.i64).pair ((Ty.int IntKind.i64).pair Ty.unit)))).sl (Md.bor true false)] [(Ty.int IntKind.i64, Md.bor false true)] (resL (none) Try.f20) (codeOf Try.f20) ⟨vars, l', ()⟩ = term_Check_p nf (fun p0 p1 v0 => iter nf (LC.F tab (term_Check_phi nf) (fun _ F => iter nf F) term_Check_keep 0 (term_Check_L0 nf)) (term_Check_m0 p0 p1 v0)) vars l' := by kernel_rfl
  rw [h]
  simp only [term_Check_e0]
  rfl
def term_Check_F (nf : Nat) (x : denPs [.val (.int .i64) (.bor true false), .val (.sl (.pair (.int .i64) (.pair (.int .i64) (.pair (.int .i64) (.pair (.int .i64) (.unit)))))) (.bor true false)]) : Option (denL [(.int .i64, .bor false true)]) := term_Check_f nf x.1 x.2.1
def term_Check_C (nf : Nat) : Contract := ⟨[.val (.int .i64) (.bor true false), .val (.sl (.pair (.int .i64) (.pair (.int .i64) (.pair (.int .i64) (.pair (.int .i64) (.unit)))))) (.bor true false)], [(.int .i64, .bor false true)], term_Check_F nf, none⟩
theorem term_Check_ok : FnOK Try.prog 20 := ⟨Try.f20, codeOf Try.f20, Try.func20, by kernel_rfl, by kernel_rfl⟩
theorem term_Check_holds (nf : Nat) : Contract.Holds Try.prog 20 (term_Check_C nf) :=
  fn_holds (Φ := term_Check_phi nf) (keep := term_Check_keep) (n := nf) ⟨tabs.1, tabs.2, ctx_nil, mixed⟩ (fn := Try.f20) ⟨Try.func20, by kernel_rfl, by kernel_rfl, by kernel_rfl⟩ (fun x => term_Check_eq nf x.1 x.2.1)

/-! codemason term.Have 1 -/
def term_Have_1_phi (nf : Nat) : Nat → Option Contract := lookC []
def term_Have_1_keep : Nat → List Nat := lookK []
def term_Have_1_p (nf : Nat)  (x : Int) : Option (Bool × Unit) :=
  bif decide (x < 0) then
    some ((true, ()))
  else
    some ((decide (x > 255), ()))
def term_Have_1_f (nf : Nat) (x : Int) : Option (Bool × Unit) := term_Have_1_p nf  x
theorem term_Have_1_eq (nf : Nat) (x : Int) : runF tab (term_Have_1_phi nf) term_Have_1_keep nf [PT.val (Ty.int IntKind.i64) (Md.bor true false)] [(Ty.bool, Md.bor false true)] (resL (none) Try.f92) (codeOf Try.f92) ⟨x, ()⟩ = term_Have_1_f nf x := by
  have h : runF tab (term_Have_1_phi nf) term_Have_1_keep nf [PT.val (Ty.int IntKind.i64) (Md.bor true false)] [(Ty.bool, Md.bor false true)] (resL (none) Try.f92) (codeOf Try.f92) ⟨x, ()⟩ = term_Have_1_p nf  x := by kernel_rfl
  exact h
def term_Have_1_F (nf : Nat) (x : denPs [.val (.int .i64) (.bor true false)]) : Option (denL [(.bool, .bor false true)]) := term_Have_1_f nf x.1
def term_Have_1_C (nf : Nat) : Contract := ⟨[.val (.int .i64) (.bor true false)], [(.bool, .bor false true)], term_Have_1_F nf, none⟩
theorem term_Have_1_ok : FnOK Try.prog 92 := ⟨Try.f92, codeOf Try.f92, Try.func92, by kernel_rfl, by kernel_rfl⟩
theorem term_Have_1_holds (nf : Nat) : Contract.Holds Try.prog 92 (term_Have_1_C nf) :=
  fn_holds (Φ := term_Have_1_phi nf) (keep := term_Have_1_keep) (n := nf) ⟨tabs.1, tabs.2, ctx_nil, mixed⟩ (fn := Try.f92) ⟨Try.func92, by kernel_rfl, by kernel_rfl, by kernel_rfl⟩ (fun x => term_Have_1_eq nf x.1)

/-! slices.IndexFunc   int int  codemason term.Have 1 -/
def slices_IndexFunc__term_Have_1_phi (nf : Nat) : Nat → Option Contract := lookC [(92, term_Have_1_C nf)]
def slices_IndexFunc__term_Have_1_keep : Nat → List Nat := lookK [(0, [0, 1, 7, 8])]
def slices_IndexFunc__term_Have_1_b0 (nf : Nat) (s : List Int) (g0 : Int → Option (Int × Unit)) (t8 : Int) : Option (Int × Unit) :=
  bif decide (t8 < (↑s.length : Int)) then
    bif inb t8 s.length then
      Option.bind (term_Have_1_f nf (s.getD t8.toNat 0)) fun r =>
      bif r.fst then
        some ((t8, ()))
      else
        g0 (IntKind.i64.wrap (t8 + 1))
    else
      none
  else
    some ((-1, ()))
def slices_IndexFunc__term_Have_1_p (nf : Nat) (l0 : List Int → Int → Option (Int × Unit)) (s : List Int) (f : Unit) : Option (Int × Unit) :=
  l0 s 0
def slices_IndexFunc__term_Have_1_l0 (nf : Nat) (s : List Int) : Nat → Int → Option (Int × Unit)
  | 0, _ => none
  | fu + 1, t8 => slices_IndexFunc__term_Have_1_b0 nf  s  (slices_IndexFunc__term_Have_1_l0 nf s  fu) t8
def slices_IndexFunc__term_Have_1_f (nf : Nat) (s : List Int) (f : Unit) : Option (Int × Unit) := slices_IndexFunc__term_Have_1_p nf (fun p0 v0 => slices_IndexFunc__term_Have_1_l0 nf p0 nf v0) s f
noncomputable def slices_IndexFunc__term_Have_1_L0 (nf : Nat) : LC (Int × Unit) := theL (findL tab (slices_IndexFunc__term_Have_1_phi nf) (fun _ F => iter nf F) slices_IndexFunc__term_Have_1_keep 0 0 (codeOf Try.f97) (fin tab [(Ty.int IntKind.i64, Md.bor false true)] (resL (none) Try.f97)) (fun _ _ => none) (fin tab [(Ty.int IntKind.i64, Md.bor false true)] (resL (none) Try.f97)))
def slices_IndexFunc__term_Have_1_m0 (s : List Int) (t8 : Int) : St := ⟨fresh, [(0, AV.v (Ty.int IntKind.i64).sl (Md.bor true false) s), (1, AV.clo 92 []), (7, AV.v (Ty.int IntKind.i64) (Md.bor false true) (↑s.length : Int)), (8, AV.v (Ty.int IntKind.i64) (Md.bor false true) t8)]⟩
theorem slices_IndexFunc__term_Have_1_h0 (nf : Nat)  (s : List Int) (fu : Nat) (t8 : Int) : iter (fu + 1) (LC.F tab (slices_IndexFunc__term_Have_1_phi nf) (fun _ F => iter nf F) slices_IndexFunc__term_Have_1_keep 0 (slices_IndexFunc__term_Have_1_L0 nf )) (slices_IndexFunc__term_Have_1_m0 s t8) = slices_IndexFunc__term_Have_1_b0 nf  s  (fun t8 => iter fu (LC.F tab (slices_IndexFunc__term_Have_1_phi nf) (fun _ F => iter nf F) slices_IndexFunc__term_Have_1_keep 0 (slices_IndexFunc__term_Have_1_L0 nf )) (slices_IndexFunc__term_Have_1_m0 s t8)) t8 := by kernel_rfl
theorem slices_IndexFunc__term_Have_1_e0 (nf : Nat)  (s : List Int) : ∀ (fu : Nat) (t8 : Int), iter fu (LC.F tab (slices_IndexFunc__term_Have_1_phi nf) (fun _ F => iter nf F) slices_IndexFunc__term_Have_1_keep 0 (slices_IndexFunc__term_Have_1_L0 nf )) (slices_IndexFunc__term_Have_1_m0 s t8) = slices_IndexFunc__term_Have_1_l0 nf s  fu t8 := by
  intro fu
  induction fu with
  | zero => intros; rfl
  | succ fu ih =>
    intro t8
    rw [slices_IndexFunc__term_Have_1_h0 nf  s fu t8]
    simp only [ih]
    rfl
theorem slices_IndexFunc__term_Have_1_eq (nf : Nat) (s : List Int) (f : Unit) : runF tab (slices_IndexFunc__term_Have_1_phi nf) slices_IndexFunc__term_Have_1_keep nf [PT.val (Ty.int IntKind.i64).sl (Md.bor true false), PT.clo 92 []] [(Ty.int IntKind.i64, Md.bor false true)] (resL (none) Try.f97) (codeOf Try.f97) ⟨s, f, ()⟩ = slices_IndexFunc__term_Have_1_f nf s f := by
  have h : runF tab (slices_IndexFunc__term_Have_1_phi nf) slices_IndexFunc__term_Have_1_keep nf [PT.val (Ty.int IntKind.i64).sl (Md.bor true false), PT.clo 92 []] [(Ty.int IntKind.i64, Md.bor false true)] (resL (none) Try.f97) (codeOf Try.f97) ⟨s, f, ()⟩ = slices_IndexFunc__term_Have_1_p nf (fun p0 v0 => iter nf (LC.F tab (slices_IndexFunc__term_Have_1_phi nf) (fun _ F => iter nf F) slices_IndexFunc__term_Have_1_keep 0 (slices_IndexFunc__term_Have_1_L0 nf)) (slices_IndexFunc__term_Have_1_m0 p0 v0)) s f := by kernel_rfl
  rw [h]
  simp only [slices_IndexFunc__term_Have_1_e0]
  rfl
def slices_IndexFunc__term_Have_1_F (nf : Nat) (x : denPs [.val (.sl (.int .i64)) (.bor true false), .clo 92 []]) : Option (denL [(.int .i64, .bor false true)]) := slices_IndexFunc__term_Have_1_f nf x.1 x.2.1
def slices_IndexFunc__term_Have_1_C (nf : Nat) : Contract := ⟨[.val (.sl (.int .i64)) (.bor true false), .clo 92 []], [(.int .i64, .bor false true)], slices_IndexFunc__term_Have_1_F nf, none⟩
theorem slices_IndexFunc__term_Have_1_ok : FnOK Try.prog 97 := ⟨Try.f97, codeOf Try.f97, Try.func97, by kernel_rfl, by kernel_rfl⟩
theorem slices_IndexFunc__term_Have_1_holds (nf : Nat) : Contract.Holds Try.prog 97 (slices_IndexFunc__term_Have_1_C nf) :=
  fn_holds (Φ := slices_IndexFunc__term_Have_1_phi nf) (keep := slices_IndexFunc__term_Have_1_keep) (n := nf) ⟨tabs.1, tabs.2, (ctx_cons term_Have_1_ok (term_Have_1_holds nf) ctx_nil), mixed⟩ (fn := Try.f97) ⟨Try.func97, by kernel_rfl, by kernel_rfl, by kernel_rfl⟩ (fun x => slices_IndexFunc__term_Have_1_eq nf x.1 x.2.1)

/-! slices.ContainsFunc   int int  codemason term.Have 1 -/
def slices_ContainsFunc__term_Have_1_phi (nf : Nat) : Nat → Option Contract := lookC [(97, slices_IndexFunc__term_Have_1_C nf)]
def slices_ContainsFunc__term_Have_1_keep : Nat → List Nat := lookK []
def slices_ContainsFunc__term_Have_1_p (nf : Nat)  (s : List Int) (f : Unit) : Option (Bool × Unit) :=
  Option.bind (slices_IndexFunc__term_Have_1_f nf s (())) fun r =>
  some ((decide (r.fst ≥ 0), ()))
def slices_ContainsFunc__term_Have_1_f (nf : Nat) (s : List Int) (f : Unit) : Option (Bool × Unit) := slices_ContainsFunc__term_Have_1_p nf  s f
theorem slices_ContainsFunc__term_Have_1_eq (nf : Nat) (s : List Int) (f : Unit) : runF tab (slices_ContainsFunc__term_Have_1_phi nf) slices_ContainsFunc__term_Have_1_keep nf [PT.val (Ty.int IntKind.i64).sl (Md.bor true false), PT.clo 92 []] [(Ty.bool, Md.bor false true)] (resL (none) Try.f91) (codeOf Try.f91) ⟨s, f, ()⟩ = slices_ContainsFunc__term_Have_1_f nf s f := by
  have h : runF tab (slices_ContainsFunc__term_Have_1_phi nf) slices_ContainsFunc__term_Have_1_keep nf [PT.val (Ty.int IntKind.i64).sl (Md.bor true false), PT.clo 92 []] [(Ty.bool, Md.bor false true)] (resL (none) Try.f91) (codeOf Try.f91) ⟨s, f, ()⟩ = slices_ContainsFunc__term_Have_1_p nf  s f := by kernel_rfl
  exact h
def slices_ContainsFunc__term_Have_1_F (nf : Nat) (x : denPs [.val (.sl (.int .i64)) (.bor true false), .clo 92 []]) : Option (denL [(.bool, .bor false true)]) := slices_ContainsFunc__term_Have_1_f nf x.1 x.2.1
def slices_ContainsFunc__term_Have_1_C (nf : Nat) : Contract := ⟨[.val (.sl (.int .i64)) (.bor true false), .clo 92 []], [(.bool, .bor false true)], slices_ContainsFunc__term_Have_1_F nf, none⟩
theorem slices_ContainsFunc__term_Have_1_ok : FnOK Try.prog 91 := ⟨Try.f91, codeOf Try.f91, Try.func91, by kernel_rfl, by kernel_rfl⟩
theorem slices_ContainsFunc__term_Have_1_holds (nf : Nat) : Contract.Holds Try.prog 91 (slices_ContainsFunc__term_Have_1_C nf) :=
  fn_holds (Φ := slices_ContainsFunc__term_Have_1_phi nf) (keep := slices_ContainsFunc__term_Have_1_keep) (n := nf) ⟨tabs.1, tabs.2, (ctx_cons slices_IndexFunc__term_Have_1_ok (slices_IndexFunc__term_Have_1_holds nf) ctx_nil), mixed⟩ (fn := Try.f91) ⟨Try.func91, by kernel_rfl, by kernel_rfl, by kernel_rfl⟩ (fun x => slices_ContainsFunc__term_Have_1_eq nf x.1 x.2.1)

/-! codemason term.Have -/
def term_Have_phi (nf : Nat) : Nat → Option Contract := lookC [(91, slices_ContainsFunc__term_Have_1_C nf)]
def term_Have_keep : Nat → List Nat := lookK []
def term_Have_p (nf : Nat)  (vars : Int) (have' : List Int) : Option (Int × Unit) :=
  bif (↑have'.length : Int) != vars then
    some ((3, ()))
  else
    Option.bind (slices_ContainsFunc__term_Have_1_f nf have' (())) fun r =>
    bif r.fst then
      some ((4, ()))
    else
      some ((0, ()))
def term_Have_f (nf : Nat) (vars : Int) (have' : List Int) : Option (Int × Unit) := term_Have_p nf  vars have'
theorem term_Have_eq (nf : Nat) (vars : Int) (have' : List Int) : runF tab (term_Have_phi nf) term_Have_keep nf [PT.val (Ty.int IntKind.i64) (Md.bor true false), PT.val (Ty.int IntKind.i64).sl (Md.bor true false)] [(Ty.int IntKind.i64, Md.bor false true)] (resL (none) Try.f66) (codeOf Try.f66) ⟨vars, have', ()⟩ = term_Have_f nf vars have' := by
  have h : runF tab (term_Have_phi nf) term_Have_keep nf [PT.val (Ty.int IntKind.i64) (Md.bor true false), PT.val (Ty.int IntKind.i64).sl (Md.bor true false)] [(Ty.int IntKind.i64, Md.bor false true)] (resL (none) Try.f66) (codeOf Try.f66) ⟨vars, have', ()⟩ = term_Have_p nf  vars have' := by kernel_rfl
  exact h
def term_Have_F (nf : Nat) (x : denPs [.val (.int .i64) (.bor true false), .val (.sl (.int .i64)) (.bor true false)]) : Option (denL [(.int .i64, .bor false true)]) := term_Have_f nf x.1 x.2.1
def term_Have_C (nf : Nat) : Contract := ⟨[.val (.int .i64) (.bor true false), .val (.sl (.int .i64)) (.bor true false)], [(.int .i64, .bor false true)], term_Have_F nf, none⟩
theorem term_Have_ok : FnOK Try.prog 66 := ⟨Try.f66, codeOf Try.f66, Try.func66, by kernel_rfl, by kernel_rfl⟩
theorem term_Have_holds (nf : Nat) : Contract.Holds Try.prog 66 (term_Have_C nf) :=
  fn_holds (Φ := term_Have_phi nf) (keep := term_Have_keep) (n := nf) ⟨tabs.1, tabs.2, (ctx_cons slices_ContainsFunc__term_Have_1_ok (slices_ContainsFunc__term_Have_1_holds nf) ctx_nil), mixed⟩ (fn := Try.f66) ⟨Try.func66, by kernel_rfl, by kernel_rfl, by kernel_rfl⟩ (fun x => term_Have_eq nf x.1 x.2.1)

/-! codemason term.Do -/
def term_Do_phi (nf : Nat) : Nat → Option Contract := lookC []
def term_Do_keep : Nat → List Nat := lookK []
def term_Do_p (nf : Nat)  (op : Int) (a : Int) (b : Int) : Option (Int × Unit) :=
  bif op == 3 then
    some ((IntKind.i64.wrap (↑(BitVec.ofInt IntKind.i64.bits (IntKind.i64.wrap (a + b)) &&& BitVec.ofInt IntKind.i64.bits 255).toNat : Int), ()))
  else
    bif op == 4 then
      some ((IntKind.i64.wrap (↑(BitVec.ofInt IntKind.i64.bits (IntKind.i64.wrap (a - b)) &&& BitVec.ofInt IntKind.i64.bits 255).toNat : Int), ()))
    else
      bif op == 5 then
        some ((IntKind.i64.wrap (↑(BitVec.ofInt IntKind.i64.bits (IntKind.i64.wrap (a * b)) &&& BitVec.ofInt IntKind.i64.bits 255).toNat : Int), ()))
      else
        bif decide (a < b) then
          some ((1, ()))
        else
          some ((0, ()))
def term_Do_f (nf : Nat) (op : Int) (a : Int) (b : Int) : Option (Int × Unit) := term_Do_p nf  op a b
theorem term_Do_eq (nf : Nat) (op : Int) (a : Int) (b : Int) : runF tab (term_Do_phi nf) term_Do_keep nf [PT.val (Ty.int IntKind.i64) (Md.bor true false), PT.val (Ty.int IntKind.i64) (Md.bor true false), PT.val (Ty.int IntKind.i64) (Md.bor true false)] [(Ty.int IntKind.i64, Md.bor false true)] (resL (none) Try.f67) (codeOf Try.f67) ⟨op, a, b, ()⟩ = term_Do_f nf op a b := by
  have h : runF tab (term_Do_phi nf) term_Do_keep nf [PT.val (Ty.int IntKind.i64) (Md.bor true false), PT.val (Ty.int IntKind.i64) (Md.bor true false), PT.val (Ty.int IntKind.i64) (Md.bor true false)] [(Ty.int IntKind.i64, Md.bor false true)] (resL (none) Try.f67) (codeOf Try.f67) ⟨op, a, b, ()⟩ = term_Do_p nf  op a b := by kernel_rfl
  exact h
def term_Do_F (nf : Nat) (x : denPs [.val (.int .i64) (.bor true false), .val (.int .i64) (.bor true false), .val (.int .i64) (.bor true false)]) : Option (denL [(.int .i64, .bor false true)]) := term_Do_f nf x.1 x.2.1 x.2.2.1
def term_Do_C (nf : Nat) : Contract := ⟨[.val (.int .i64) (.bor true false), .val (.int .i64) (.bor true false), .val (.int .i64) (.bor true false)], [(.int .i64, .bor false true)], term_Do_F nf, none⟩
theorem term_Do_ok : FnOK Try.prog 67 := ⟨Try.f67, codeOf Try.f67, Try.func67, by kernel_rfl, by kernel_rfl⟩
theorem term_Do_holds (nf : Nat) : Contract.Holds Try.prog 67 (term_Do_C nf) :=
  fn_holds (Φ := term_Do_phi nf) (keep := term_Do_keep) (n := nf) ⟨tabs.1, tabs.2, ctx_nil, mixed⟩ (fn := Try.f67) ⟨Try.func67, by kernel_rfl, by kernel_rfl, by kernel_rfl⟩ (fun x => term_Do_eq nf x.1 x.2.1 x.2.2.1)

/-! codemason term.Value -/
def term_Value_phi (nf : Nat) : Nat → Option Contract := lookC [(20, term_Check_C nf), (66, term_Have_C nf), (67, term_Do_C nf)]
def term_Value_keep : Nat → List Nat := lookK [(0, [1, 2, 10, 26, 27, 28, 63])]
def term_Value_b0 (nf : Nat) (l' : List (Int × Int × Int × Int × Unit)) (have' : List Int) (g0 : List Int → Int → Option (Int × Int × Unit)) (v : List Int) (t28 : Int) : Option (Int × Int × Unit) :=
  bif decide (t28 < (↑l'.length : Int)) then
    bif inb t28 l'.length then
      bif (l'.getD t28.toNat (0, 0, 0, 0, ())).fst == 2 then
        bif inb (l'.getD t28.toNat (0, 0, 0, 0, ())).snd.snd.snd.fst have'.length then
          bif bimp false ![have'.getD (Int.toNat (l'.getD t28.toNat (0, 0, 0, 0, ())).snd.snd.snd.fst) 0].isEmpty && (v.length + [have'.getD (Int.toNat (l'.getD t28.toNat (0, 0, 0, 0, ())).snd.snd.snd.fst) 0].length).ble lim then
            g0 (v ++ [have'.getD (Int.toNat (l'.getD t28.toNat (0, 0, 0, 0, ())).snd.snd.snd.fst) 0]) (IntKind.i64.wrap (t28 + 1))
          else
            none
        else
          none
      else
        bif decide ((l'.getD t28.toNat (0, 0, 0, 0, ())).fst > 2) then
          bif inb (l'.getD t28.toNat (0, 0, 0, 0, ())).snd.fst v.length then
            bif inb (l'.getD t28.toNat (0, 0, 0, 0, ())).snd.snd.fst v.length then
              Option.bind (term_Do_f nf ((l'.getD t28.toNat (0, 0, 0, 0, ())).fst) (v.getD (Int.toNat (l'.getD t28.toNat (0, 0, 0, 0, ())).snd.fst) 0) (v.getD (Int.toNat (l'.getD t28.toNat (0, 0, 0, 0, ())).snd.snd.fst) 0)) fun r3 =>
              bif bimp false ![r3.fst].isEmpty && (v.length + [r3.fst].length).ble lim then
                g0 (v ++ [r3.fst]) (IntKind.i64.wrap (t28 + 1))
              else
                none
            else
              none
          else
            none
        else
          bif bimp false ![(l'.getD t28.toNat (0, 0, 0, 0, ())).snd.snd.snd.fst].isEmpty && (v.length + [(l'.getD t28.toNat (0, 0, 0, 0, ())).snd.snd.snd.fst].length).ble lim then
            g0 (v ++ [(l'.getD t28.toNat (0, 0, 0, 0, ())).snd.snd.snd.fst]) (IntKind.i64.wrap (t28 + 1))
          else
            none
    else
      none
  else
    bif inb (IntKind.i64.wrap ((↑v.length : Int) - 1)) v.length then
      some ((v.getD (IntKind.i64.wrap ((↑v.length : Int) - 1)).toNat 0, 0, ()))
    else
      none
def term_Value_p (nf : Nat) (l0 : List (Int × Int × Int × Int × Unit) → List Int → List Int → Int → Option (Int × Int × Unit)) (vars : Int) (l' : List (Int × Int × Int × Int × Unit)) (have' : List Int) : Option (Int × Int × Unit) :=
  Option.bind (term_Check_f nf vars l') fun r =>
  bif r.fst != 0 then
    some ((0, r.fst, ()))
  else
    Option.bind (term_Have_f nf vars have') fun r2 =>
    bif r2.fst != 0 then
      some ((0, r2.fst, ()))
    else
      l0 l' have' [] 0
def term_Value_l0 (nf : Nat) (l' : List (Int × Int × Int × Int × Unit)) (have' : List Int) : Nat → List Int → Int → Option (Int × Int × Unit)
  | 0, _, _ => none
  | fu + 1, v, t28 => term_Value_b0 nf  l' have'  (term_Value_l0 nf l' have'  fu) v t28
def term_Value_f (nf : Nat) (vars : Int) (l' : List (Int × Int × Int × Int × Unit)) (have' : List Int) : Option (Int × Int × Unit) := term_Value_p nf (fun p0 p1 v0 v1 => term_Value_l0 nf p0 p1 nf v0 v1) vars l' have'
noncomputable def term_Value_L0 (nf : Nat) : LC (Int × Int × Unit) := theL (findL tab (term_Value_phi nf) (fun _ F => iter nf F) term_Value_keep 0 0 (codeOf Try.f24) (fin tab [(Ty.int IntKind.i64, Md.bor false true), (Ty.int IntKind.i64, Md.bor false true)] (resL (none) Try.f24)) (fun _ _ => none) (fin tab [(Ty.int IntKind.i64, Md.bor false true), (Ty.int IntKind.i64, Md.bor false true)] (resL (none) Try.f24)))
def term_Value_m0 (l' : List (Int × Int × Int × Int × Unit)) (have' : List Int) (v : List Int) (t28 : Int) : St := ⟨fresh, [(1, AV.v ((Ty.int IntKind.i64).pair ((Ty.int IntKind.i64).pair ((Ty.int IntKind.i64).pair ((Ty.int IntKind.i64).pair Ty.unit)))).sl (Md.bor true false) l'), (2, AV.v (Ty.int IntKind.i64).sl (Md.bor true false) have'), (10, AV.ow 500010 (Ty.int IntKind.i64).sl (Md.own false (Md.bor false false)) v), (26, AV.v ((Ty.int IntKind.i64).pair ((Ty.int IntKind.i64).pair ((Ty.int IntKind.i64).pair ((Ty.int IntKind.i64).pair Ty.unit)))).sl (Md.bor true false) l'), (27, AV.v (Ty.int IntKind.i64) (Md.bor false true) (↑l'.length : Int)), (28, AV.v (Ty.int IntKind.i64) (Md.bor false true) t28), (63, AV.dead)]⟩
theorem term_Value_h0 (nf : Nat)  (l' : List (Int × Int × Int × Int × Unit)) (have' : List Int) (fu : Nat) (v : List Int) (t28 : Int) : iter (fu + 1) (LC.F tab (term_Value_phi nf) (fun _ F => iter nf F) term_Value_keep 0 (term_Value_L0 nf )) (term_Value_m0 l' have' v t28) = term_Value_b0 nf  l' have'  (fun v t28 => iter fu (LC.F tab (term_Value_phi nf) (fun _ F => iter nf F) term_Value_keep 0 (term_Value_L0 nf )) (term_Value_m0 l' have' v t28)) v t28 := by kernel_rfl
theorem term_Value_e0 (nf : Nat)  (l' : List (Int × Int × Int × Int × Unit)) (have' : List Int) : ∀ (fu : Nat) (v : List Int) (t28 : Int), iter fu (LC.F tab (term_Value_phi nf) (fun _ F => iter nf F) term_Value_keep 0 (term_Value_L0 nf )) (term_Value_m0 l' have' v t28) = term_Value_l0 nf l' have'  fu v t28 := by
  intro fu
  induction fu with
  | zero => intros; rfl
  | succ fu ih =>
    intro v t28
    rw [term_Value_h0 nf  l' have' fu v t28]
    simp only [ih]
    rfl
theorem term_Value_eq (nf : Nat) (vars : Int) (l' : List (Int × Int × Int × Int × Unit)) (have' : List Int) : runF tab (term_Value_phi nf) term_Value_keep nf [PT.val (Ty.int IntKind.i64) (Md.bor true false), PT.val ((Ty.int IntKind.i64).pair ((Ty.int IntKind.i64).pair ((Ty.int IntKind.i64).pair ((Ty.int IntKind.i64).pair Ty.unit)))).sl (Md.bor true false), PT.val (Ty.int IntKind.i64).sl (Md.bor true false)] [(Ty.int IntKind.i64, Md.bor false true), (Ty.int IntKind.i64, Md.bor false true)] (resL (none) Try.f24) (codeOf Try.f24) ⟨vars, l', have', ()⟩ = term_Value_f nf vars l' have' := by
  have h : runF tab (term_Value_phi nf) term_Value_keep nf [PT.val (Ty.int IntKind.i64) (Md.bor true false), PT.val ((Ty.int IntKind.i64).pair ((Ty.int IntKind.i64).pair ((Ty.int IntKind.i64).pair ((Ty.int IntKind.i64).pair Ty.unit)))).sl (Md.bor true false), PT.val (Ty.int IntKind.i64).sl (Md.bor true false)] [(Ty.int IntKind.i64, Md.bor false true), (Ty.int IntKind.i64, Md.bor false true)] (resL (none) Try.f24) (codeOf Try.f24) ⟨vars, l', have', ()⟩ = term_Value_p nf (fun p0 p1 v0 v1 => iter nf (LC.F tab (term_Value_phi nf) (fun _ F => iter nf F) term_Value_keep 0 (term_Value_L0 nf)) (term_Value_m0 p0 p1 v0 v1)) vars l' have' := by kernel_rfl
  rw [h]
  simp only [term_Value_e0]
  rfl
def term_Value_F (nf : Nat) (x : denPs [.val (.int .i64) (.bor true false), .val (.sl (.pair (.int .i64) (.pair (.int .i64) (.pair (.int .i64) (.pair (.int .i64) (.unit)))))) (.bor true false), .val (.sl (.int .i64)) (.bor true false)]) : Option (denL [(.int .i64, .bor false true), (.int .i64, .bor false true)]) := term_Value_f nf x.1 x.2.1 x.2.2.1
def term_Value_C (nf : Nat) : Contract := ⟨[.val (.int .i64) (.bor true false), .val (.sl (.pair (.int .i64) (.pair (.int .i64) (.pair (.int .i64) (.pair (.int .i64) (.unit)))))) (.bor true false), .val (.sl (.int .i64)) (.bor true false)], [(.int .i64, .bor false true), (.int .i64, .bor false true)], term_Value_F nf, none⟩
theorem term_Value_ok : FnOK Try.prog 24 := ⟨Try.f24, codeOf Try.f24, Try.func24, by kernel_rfl, by kernel_rfl⟩
theorem term_Value_holds (nf : Nat) : Contract.Holds Try.prog 24 (term_Value_C nf) :=
  fn_holds (Φ := term_Value_phi nf) (keep := term_Value_keep) (n := nf) ⟨tabs.1, tabs.2, (ctx_cons term_Check_ok (term_Check_holds nf) (ctx_cons term_Have_ok (term_Have_holds nf) (ctx_cons term_Do_ok (term_Do_holds nf) ctx_nil))), mixed⟩ (fn := Try.f24) ⟨Try.func24, by kernel_rfl, by kernel_rfl, by kernel_rfl⟩ (fun x => term_Value_eq nf x.1 x.2.1 x.2.2.1)

/-! codemason block.step 1 -/
def block_step_1_phi (nf : Nat) : Nat → Option Contract := lookC []
def block_step_1_keep : Nat → List Nat := lookK []
def block_step_1_p (nf : Nat)  (i : Int) (c1 : Int) : Option (Bool × Unit) :=
  bif decide (i ≥ 0) then
    some ((decide (i < c1), ()))
  else
    some ((false, ()))
def block_step_1_f (nf : Nat) (i : Int) (c1 : Int) : Option (Bool × Unit) := block_step_1_p nf  i c1
theorem block_step_1_eq (nf : Nat) (i : Int) (c1 : Int) : runF tab (block_step_1_phi nf) block_step_1_keep nf [PT.val (Ty.int IntKind.i64) (Md.bor true false), PT.ptr (Ty.int IntKind.i64) (Md.bor true false)] [(Ty.bool, Md.bor false true)] (resL (none) Try.f100) (codeOf Try.f100) ⟨i, c1, ()⟩ = block_step_1_f nf i c1 := by
  have h : runF tab (block_step_1_phi nf) block_step_1_keep nf [PT.val (Ty.int IntKind.i64) (Md.bor true false), PT.ptr (Ty.int IntKind.i64) (Md.bor true false)] [(Ty.bool, Md.bor false true)] (resL (none) Try.f100) (codeOf Try.f100) ⟨i, c1, ()⟩ = block_step_1_p nf  i c1 := by kernel_rfl
  exact h
def block_step_1_F (nf : Nat) (x : denPs [.val (.int .i64) (.bor true false), .ptr (.int .i64) (.bor true false)]) : Option (denL [(.bool, .bor false true)]) := block_step_1_f nf x.1 x.2.1
def block_step_1_C (nf : Nat) : Contract := ⟨[.val (.int .i64) (.bor true false), .ptr (.int .i64) (.bor true false)], [(.bool, .bor false true)], block_step_1_F nf, none⟩
theorem block_step_1_ok : FnOK Try.prog 100 := ⟨Try.f100, codeOf Try.f100, Try.func100, by kernel_rfl, by kernel_rfl⟩
theorem block_step_1_holds (nf : Nat) : Contract.Holds Try.prog 100 (block_step_1_C nf) :=
  fn_holds (Φ := block_step_1_phi nf) (keep := block_step_1_keep) (n := nf) ⟨tabs.1, tabs.2, ctx_nil, mixed⟩ (fn := Try.f100) ⟨Try.func100, by kernel_rfl, by kernel_rfl, by kernel_rfl⟩ (fun x => block_step_1_eq nf x.1 x.2.1)

/-! codemason block.step -/
def block_step_phi (nf : Nat) : Nat → Option Contract := lookC [(100, block_step_1_C nf)]
def block_step_keep : Nat → List Nat := lookK []
def block_step_p (nf : Nat)  (vars : Int) (s : Int × Int × Int × Int × Int × Unit) : Option (Int × Unit) :=
  bif decide (s.fst < 1) then
    some ((6, ()))
  else
    bif decide (s.fst > 6) then
      some ((6, ()))
    else
      bif s.fst == 1 then
        bif decide (s.snd.snd.snd.snd.fst < 0) then
          some ((4, ()))
        else
          bif decide (s.snd.snd.snd.snd.fst > 255) then
            some ((4, ()))
          else
            bif s.fst == 2 then
              Option.bind (block_step_1_f nf s.snd.snd.snd.snd.fst vars) fun r =>
              bif !r.fst then
                some ((4, ()))
              else
                Option.bind (block_step_1_f nf s.snd.fst vars) fun r2 =>
                bif !r2.fst then
                  some ((2, ()))
                else
                  bif decide (s.fst > 2) then
                    Option.bind (block_step_1_f nf s.snd.snd.fst vars) fun r3 =>
                    bif !r3.fst then
                      some ((2, ()))
                    else
                      Option.bind (block_step_1_f nf s.snd.snd.snd.fst vars) fun r4 =>
                      bif !r4.fst then
                        some ((2, ()))
                      else
                        some ((0, ()))
                  else
                    some ((0, ()))
            else
              Option.bind (block_step_1_f nf s.snd.fst vars) fun r5 =>
              bif !r5.fst then
                some ((2, ()))
              else
                bif decide (s.fst > 2) then
                  Option.bind (block_step_1_f nf s.snd.snd.fst vars) fun r6 =>
                  bif !r6.fst then
                    some ((2, ()))
                  else
                    Option.bind (block_step_1_f nf s.snd.snd.snd.fst vars) fun r7 =>
                    bif !r7.fst then
                      some ((2, ()))
                    else
                      some ((0, ()))
                else
                  some ((0, ()))
      else
        bif s.fst == 2 then
          Option.bind (block_step_1_f nf s.snd.snd.snd.snd.fst vars) fun r8 =>
          bif !r8.fst then
            some ((4, ()))
          else
            Option.bind (block_step_1_f nf s.snd.fst vars) fun r9 =>
            bif !r9.fst then
              some ((2, ()))
            else
              bif decide (s.fst > 2) then
                Option.bind (block_step_1_f nf s.snd.snd.fst vars) fun r10 =>
                bif !r10.fst then
                  some ((2, ()))
                else
                  Option.bind (block_step_1_f nf s.snd.snd.snd.fst vars) fun r11 =>
                  bif !r11.fst then
                    some ((2, ()))
                  else
                    some ((0, ()))
              else
                some ((0, ()))
        else
          Option.bind (block_step_1_f nf s.snd.fst vars) fun r12 =>
          bif !r12.fst then
            some ((2, ()))
          else
            bif decide (s.fst > 2) then
              Option.bind (block_step_1_f nf s.snd.snd.fst vars) fun r13 =>
              bif !r13.fst then
                some ((2, ()))
              else
                Option.bind (block_step_1_f nf s.snd.snd.snd.fst vars) fun r14 =>
                bif !r14.fst then
                  some ((2, ()))
                else
                  some ((0, ()))
            else
              some ((0, ()))
def block_step_f (nf : Nat) (vars : Int) (s : Int × Int × Int × Int × Int × Unit) : Option (Int × Unit) := block_step_p nf  vars s
theorem block_step_eq (nf : Nat) (vars : Int) (s : Int × Int × Int × Int × Int × Unit) : runF tab (block_step_phi nf) block_step_keep nf [PT.val (Ty.int IntKind.i64) (Md.bor true false), PT.val ((Ty.int IntKind.i64).pair ((Ty.int IntKind.i64).pair ((Ty.int IntKind.i64).pair ((Ty.int IntKind.i64).pair ((Ty.int IntKind.i64).pair Ty.unit))))) (Md.bor true false)] [(Ty.int IntKind.i64, Md.bor false true)] (resL (none) Try.f98) (codeOf Try.f98) ⟨vars, s, ()⟩ = block_step_f nf vars s := by
  have h : runF tab (block_step_phi nf) block_step_keep nf [PT.val (Ty.int IntKind.i64) (Md.bor true false), PT.val ((Ty.int IntKind.i64).pair ((Ty.int IntKind.i64).pair ((Ty.int IntKind.i64).pair ((Ty.int IntKind.i64).pair ((Ty.int IntKind.i64).pair Ty.unit))))) (Md.bor true false)] [(Ty.int IntKind.i64, Md.bor false true)] (resL (none) Try.f98) (codeOf Try.f98) ⟨vars, s, ()⟩ = block_step_p nf  vars s := by kernel_rfl
  exact h
def block_step_F (nf : Nat) (x : denPs [.val (.int .i64) (.bor true false), .val (.pair (.int .i64) (.pair (.int .i64) (.pair (.int .i64) (.pair (.int .i64) (.pair (.int .i64) (.unit)))))) (.bor true false)]) : Option (denL [(.int .i64, .bor false true)]) := block_step_f nf x.1 x.2.1
def block_step_C (nf : Nat) : Contract := ⟨[.val (.int .i64) (.bor true false), .val (.pair (.int .i64) (.pair (.int .i64) (.pair (.int .i64) (.pair (.int .i64) (.pair (.int .i64) (.unit)))))) (.bor true false)], [(.int .i64, .bor false true)], block_step_F nf, none⟩
theorem block_step_ok : FnOK Try.prog 98 := ⟨Try.f98, codeOf Try.f98, Try.func98, by kernel_rfl, by kernel_rfl⟩
theorem block_step_holds (nf : Nat) : Contract.Holds Try.prog 98 (block_step_C nf) :=
  fn_holds (Φ := block_step_phi nf) (keep := block_step_keep) (n := nf) ⟨tabs.1, tabs.2, (ctx_cons block_step_1_ok (block_step_1_holds nf) ctx_nil), mixed⟩ (fn := Try.f98) ⟨Try.func98, by kernel_rfl, by kernel_rfl, by kernel_rfl⟩ (fun x => block_step_eq nf x.1 x.2.1)

/-! codemason block.Check 1 -/
def block_Check_1_phi (nf : Nat) : Nat → Option Contract := lookC []
def block_Check_1_keep : Nat → List Nat := lookK []
def block_Check_1_p (nf : Nat)  (i : Int) (c1 : List (List (Int × Int × Int × Int × Int × Unit) × Int × Int × Int × Unit)) : Option (Bool × Unit) :=
  bif decide (i ≥ 0) then
    some ((decide (i < (↑c1.length : Int)), ()))
  else
    some ((false, ()))
def block_Check_1_f (nf : Nat) (i : Int) (c1 : List (List (Int × Int × Int × Int × Int × Unit) × Int × Int × Int × Unit)) : Option (Bool × Unit) := block_Check_1_p nf  i c1
theorem block_Check_1_eq (nf : Nat) (i : Int) (c1 : List (List (Int × Int × Int × Int × Int × Unit) × Int × Int × Int × Unit)) : runF tab (block_Check_1_phi nf) block_Check_1_keep nf [PT.val (Ty.int IntKind.i64) (Md.bor true false), PT.ptr (((Ty.int IntKind.i64).pair ((Ty.int IntKind.i64).pair ((Ty.int IntKind.i64).pair ((Ty.int IntKind.i64).pair ((Ty.int IntKind.i64).pair Ty.unit))))).sl.pair ((Ty.int IntKind.i64).pair ((Ty.int IntKind.i64).pair ((Ty.int IntKind.i64).pair Ty.unit)))).sl (Md.bor true false)] [(Ty.bool, Md.bor false true)] (resL (none) Try.f99) (codeOf Try.f99) ⟨i, c1, ()⟩ = block_Check_1_f nf i c1 := by
  have h : runF tab (block_Check_1_phi nf) block_Check_1_keep nf [PT.val (Ty.int IntKind.i64) (Md.bor true false), PT.ptr (((Ty.int IntKind.i64).pair ((Ty.int IntKind.i64).pair ((Ty.int IntKind.i64).pair ((Ty.int IntKind.i64).pair ((Ty.int IntKind.i64).pair Ty.unit))))).sl.pair ((Ty.int IntKind.i64).pair ((Ty.int IntKind.i64).pair ((Ty.int IntKind.i64).pair Ty.unit)))).sl (Md.bor true false)] [(Ty.bool, Md.bor false true)] (resL (none) Try.f99) (codeOf Try.f99) ⟨i, c1, ()⟩ = block_Check_1_p nf  i c1 := by kernel_rfl
  exact h
def block_Check_1_F (nf : Nat) (x : denPs [.val (.int .i64) (.bor true false), .ptr (.sl (.pair (.sl (.pair (.int .i64) (.pair (.int .i64) (.pair (.int .i64) (.pair (.int .i64) (.pair (.int .i64) (.unit))))))) (.pair (.int .i64) (.pair (.int .i64) (.pair (.int .i64) (.unit)))))) (.bor true false)]) : Option (denL [(.bool, .bor false true)]) := block_Check_1_f nf x.1 x.2.1
def block_Check_1_C (nf : Nat) : Contract := ⟨[.val (.int .i64) (.bor true false), .ptr (.sl (.pair (.sl (.pair (.int .i64) (.pair (.int .i64) (.pair (.int .i64) (.pair (.int .i64) (.pair (.int .i64) (.unit))))))) (.pair (.int .i64) (.pair (.int .i64) (.pair (.int .i64) (.unit)))))) (.bor true false)], [(.bool, .bor false true)], block_Check_1_F nf, none⟩
theorem block_Check_1_ok : FnOK Try.prog 99 := ⟨Try.f99, codeOf Try.f99, Try.func99, by kernel_rfl, by kernel_rfl⟩
theorem block_Check_1_holds (nf : Nat) : Contract.Holds Try.prog 99 (block_Check_1_C nf) :=
  fn_holds (Φ := block_Check_1_phi nf) (keep := block_Check_1_keep) (n := nf) ⟨tabs.1, tabs.2, ctx_nil, mixed⟩ (fn := Try.f99) ⟨Try.func99, by kernel_rfl, by kernel_rfl, by kernel_rfl⟩ (fun x => block_Check_1_eq nf x.1 x.2.1)

/-! codemason block.Check -/
def block_Check_phi (nf : Nat) : Nat → Option Contract := lookC [(98, block_step_C nf), (99, block_Check_1_C nf)]
def block_Check_keep : Nat → List Nat := lookK [(4, [0, 1, 3, 9, 46, 47, 48, 52, 53, 54, 55]), (2, [0, 1, 3, 46, 47, 48]), (0, [0, 1, 3, 5, 14, 15, 16])]
def block_Check_b0 (nf : Nat) (l2 : Int → List (List (Int × Int × Int × Int × Int × Unit) × Int × Int × Int × Unit) → List (List (Int × Int × Int × Int × Int × Unit) × Int × Int × Int × Unit) → List (List (Int × Int × Int × Int × Int × Unit) × Int × Int × Int × Unit) → Int → Option (Int × Unit)) (vars : Int) (p : List (List (Int × Int × Int × Int × Int × Unit) × Int × Int × Int × Unit)) (g0 : List (List (Int × Int × Int × Int × Int × Unit) × Int × Int × Int × Unit) → Int → Int → Option (Int × Unit)) (p2 : List (List (Int × Int × Int × Int × Int × Unit) × Int × Int × Int × Unit)) (many : Int) (t16 : Int) : Option (Int × Unit) :=
  bif decide (t16 < (↑p.length : Int)) then
    bif inb t16 p.length then
      g0 p2 (IntKind.i64.wrap (many + (↑(List.length (p.getD t16.toNat ([], 0, 0, 0, ())).fst) : Int))) (IntKind.i64.wrap (t16 + 1))
    else
      none
  else
    bif decide (vars < 1) then
      some ((1, ()))
    else
      bif decide (vars > 6) then
        some ((1, ()))
      else
        bif decide ((↑p2.length : Int) < 1) then
          some ((1, ()))
        else
          bif decide ((↑p2.length : Int) > 8) then
            some ((1, ()))
          else
            bif decide (many > 20) then
              some ((1, ()))
            else
              l2 vars p p2 p2 0
def block_Check_b2 (nf : Nat) (l4 : Int → List (List (Int × Int × Int × Int × Int × Unit) × Int × Int × Int × Unit) → List (List (Int × Int × Int × Int × Int × Unit) × Int × Int × Int × Unit) → Int → List (List (Int × Int × Int × Int × Int × Unit) × Int × Int × Int × Unit) → List (Int × Int × Int × Int × Int × Unit) × Int × Int × Int × Unit → Int → Option (Int × Unit)) (vars : Int) (p : List (List (Int × Int × Int × Int × Int × Unit) × Int × Int × Int × Unit)) (p2 : List (List (Int × Int × Int × Int × Int × Unit) × Int × Int × Int × Unit)) (g2 : List (List (Int × Int × Int × Int × Int × Unit) × Int × Int × Int × Unit) → Int → Option (Int × Unit)) (p3 : List (List (Int × Int × Int × Int × Int × Unit) × Int × Int × Int × Unit)) (t48 : Int) : Option (Int × Unit) :=
  bif decide (t48 < (↑p2.length : Int)) then
    bif inb t48 p2.length then
      l4 vars p p2 t48 p3 (p2.getD t48.toNat ([], 0, 0, 0, ())) 0
    else
      none
  else
    some ((0, ()))
def block_Check_b4 (nf : Nat) (vars : Int) (p : List (List (Int × Int × Int × Int × Int × Unit) × Int × Int × Int × Unit)) (p2 : List (List (Int × Int × Int × Int × Int × Unit) × Int × Int × Int × Unit)) (t48 : Int) (g2 : List (List (Int × Int × Int × Int × Int × Unit) × Int × Int × Int × Unit) → Int → Option (Int × Unit)) (g4 : List (List (Int × Int × Int × Int × Int × Unit) × Int × Int × Int × Unit) → List (Int × Int × Int × Int × Int × Unit) × Int × Int × Int × Unit → Int → Option (Int × Unit)) (p4 : List (List (Int × Int × Int × Int × Int × Unit) × Int × Int × Int × Unit)) (b : List (Int × Int × Int × Int × Int × Unit) × Int × Int × Int × Unit) (t55 : Int) : Option (Int × Unit) :=
  bif decide (t55 < (↑(List.length (p2.getD t48.toNat ([], 0, 0, 0, ())).fst) : Int)) then
    bif inb t55 (List.length (p2.getD t48.toNat ([], 0, 0, 0, ())).fst) then
      Option.bind (block_step_f nf vars (List.getD (p2.getD t48.toNat ([], 0, 0, 0, ())).fst t55.toNat (0, 0, 0, 0, 0, ()))) fun r =>
      bif r.fst != 0 then
        some ((r.fst, ()))
      else
        g4 p4 b (IntKind.i64.wrap (t55 + 1))
    else
      none
  else
    bif decide (b.snd.fst < (-1)) then
      some ((2, ()))
    else
      bif decide (b.snd.fst ≥ vars) then
        some ((2, ()))
      else
        Option.bind (block_Check_1_f nf b.snd.snd.fst p4) fun r2 =>
        bif !r2.fst then
          bif b.snd.snd.fst != (-1) then
            some ((3, ()))
          else
            bif decide (b.snd.fst ≥ 0) then
              some ((3, ()))
            else
              bif decide (b.snd.fst ≥ 0) then
                Option.bind (block_Check_1_f nf b.snd.snd.snd.fst p4) fun r3 =>
                bif !r3.fst then
                  some ((3, ()))
                else
                  g2 p4 (IntKind.i64.wrap (t48 + 1))
              else
                g2 p4 (IntKind.i64.wrap (t48 + 1))
        else
          bif decide (b.snd.fst ≥ 0) then
            Option.bind (block_Check_1_f nf b.snd.snd.snd.fst p4) fun r4 =>
            bif !r4.fst then
              some ((3, ()))
            else
              g2 p4 (IntKind.i64.wrap (t48 + 1))
          else
            g2 p4 (IntKind.i64.wrap (t48 + 1))
def block_Check_p (nf : Nat) (l0 : Int → List (List (Int × Int × Int × Int × Int × Unit) × Int × Int × Int × Unit) → List (List (Int × Int × Int × Int × Int × Unit) × Int × Int × Int × Unit) → Int → Int → Option (Int × Unit)) (vars : Int) (p : List (List (Int × Int × Int × Int × Int × Unit) × Int × Int × Int × Unit)) : Option (Int × Unit) :=
  l0 vars p p 0 0
def block_Check_l4 (nf : Nat) (vars : Int) (p : List (List (Int × Int × Int × Int × Int × Unit) × Int × Int × Int × Unit)) (p2 : List (List (Int × Int × Int × Int × Int × Unit) × Int × Int × Int × Unit)) (t48 : Int) (g2 : List (List (Int × Int × Int × Int × Int × Unit) × Int × Int × Int × Unit) → Int → Option (Int × Unit)) : Nat → List (List (Int × Int × Int × Int × Int × Unit) × Int × Int × Int × Unit) → List (Int × Int × Int × Int × Int × Unit) × Int × Int × Int × Unit → Int → Option (Int × Unit)
  | 0, _, _, _ => none
  | fu + 1, p4, b, t55 => block_Check_b4 nf  vars p p2 t48 g2 (block_Check_l4 nf vars p p2 t48 g2 fu) p4 b t55
def block_Check_l2 (nf : Nat) (vars : Int) (p : List (List (Int × Int × Int × Int × Int × Unit) × Int × Int × Int × Unit)) (p2 : List (List (Int × Int × Int × Int × Int × Unit) × Int × Int × Int × Unit)) : Nat → List (List (Int × Int × Int × Int × Int × Unit) × Int × Int × Int × Unit) → Int → Option (Int × Unit)
  | 0, _, _ => none
  | fu + 1, p3, t48 => block_Check_b2 nf (fun _ _ _ p3 v0 v1 v2 => block_Check_l4 nf vars p p2 p3 (fun p3 t48 => block_Check_l2 nf vars p p2  fu p3 t48) nf v0 v1 v2) vars p p2  (block_Check_l2 nf vars p p2  fu) p3 t48
def block_Check_l0 (nf : Nat) (vars : Int) (p : List (List (Int × Int × Int × Int × Int × Unit) × Int × Int × Int × Unit)) : Nat → List (List (Int × Int × Int × Int × Int × Unit) × Int × Int × Int × Unit) → Int → Int → Option (Int × Unit)
  | 0, _, _, _ => none
  | fu + 1, p2, many, t16 => block_Check_b0 nf (fun _ _ p2 v0 v1 => block_Check_l2 nf vars p p2  nf v0 v1) vars p  (block_Check_l0 nf vars p  fu) p2 many t16
def block_Check_f (nf : Nat) (vars : Int) (p : List (List (Int × Int × Int × Int × Int × Unit) × Int × Int × Int × Unit)) : Option (Int × Unit) := block_Check_p nf (fun p0 p1 v0 v1 v2 => block_Check_l0 nf p0 p1 nf v0 v1 v2) vars p
noncomputable def block_Check_L0 (nf : Nat) : LC (Int × Unit) := theL (findL tab (block_Check_phi nf) (fun _ F => iter nf F) block_Check_keep 0 0 (codeOf Try.f95) (fin tab [(Ty.int IntKind.i64, Md.bor false true)] (resL (none) Try.f95)) (fun _ _ => none) (fin tab [(Ty.int IntKind.i64, Md.bor false true)] (resL (none) Try.f95)))
def block_Check_m0 (vars : Int) (p : List (List (Int × Int × Int × Int × Int × Unit) × Int × Int × Int × Unit)) (p2 : List (List (Int × Int × Int × Int × Int × Unit) × Int × Int × Int × Unit)) (many : Int) (t16 : Int) : St := ⟨fresh, [(0, AV.v (Ty.int IntKind.i64) (Md.bor false true) vars), (1, AV.v (((Ty.int IntKind.i64).pair ((Ty.int IntKind.i64).pair ((Ty.int IntKind.i64).pair ((Ty.int IntKind.i64).pair ((Ty.int IntKind.i64).pair Ty.unit))))).sl.pair ((Ty.int IntKind.i64).pair ((Ty.int IntKind.i64).pair ((Ty.int IntKind.i64).pair Ty.unit)))).sl (Md.bor true false) p), (3, AV.box 3 500003 (((Ty.int IntKind.i64).pair ((Ty.int IntKind.i64).pair ((Ty.int IntKind.i64).pair ((Ty.int IntKind.i64).pair ((Ty.int IntKind.i64).pair Ty.unit))))).sl.pair ((Ty.int IntKind.i64).pair ((Ty.int IntKind.i64).pair ((Ty.int IntKind.i64).pair Ty.unit)))).sl (Md.bor true false) p2), (5, AV.v (Ty.int IntKind.i64) (Md.bor false true) many), (14, AV.v (((Ty.int IntKind.i64).pair ((Ty.int IntKind.i64).pair ((Ty.int IntKind.i64).pair ((Ty.int IntKind.i64).pair ((Ty.int IntKind.i64).pair Ty.unit))))).sl.pair ((Ty.int IntKind.i64).pair ((Ty.int IntKind.i64).pair ((Ty.int IntKind.i64).pair Ty.unit)))).sl (Md.bor true false) p), (15, AV.v (Ty.int IntKind.i64) (Md.bor false true) (↑p.length : Int)), (16, AV.v (Ty.int IntKind.i64) (Md.bor false true) t16)]⟩
noncomputable def block_Check_L2 (nf : Nat) : LC (Int × Unit) := theL (findL tab (block_Check_phi nf) (fun _ F => iter nf F) block_Check_keep 2 0 (codeOf Try.f95) (fin tab [(Ty.int IntKind.i64, Md.bor false true)] (resL (none) Try.f95)) (fun _ _ => none) (fin tab [(Ty.int IntKind.i64, Md.bor false true)] (resL (none) Try.f95)))
def block_Check_m2 (vars : Int) (p : List (List (Int × Int × Int × Int × Int × Unit) × Int × Int × Int × Unit)) (p2 : List (List (Int × Int × Int × Int × Int × Unit) × Int × Int × Int × Unit)) (p3 : List (List (Int × Int × Int × Int × Int × Unit) × Int × Int × Int × Unit)) (t48 : Int) : St := ⟨fresh, [(0, AV.v (Ty.int IntKind.i64) (Md.bor false true) vars), (1, AV.v (((Ty.int IntKind.i64).pair ((Ty.int IntKind.i64).pair ((Ty.int IntKind.i64).pair ((Ty.int IntKind.i64).pair ((Ty.int IntKind.i64).pair Ty.unit))))).sl.pair ((Ty.int IntKind.i64).pair ((Ty.int IntKind.i64).pair ((Ty.int IntKind.i64).pair Ty.unit)))).sl (Md.bor true false) p), (3, AV.box 3 500003 (((Ty.int IntKind.i64).pair ((Ty.int IntKind.i64).pair ((Ty.int IntKind.i64).pair ((Ty.int IntKind.i64).pair ((Ty.int IntKind.i64).pair Ty.unit))))).sl.pair ((Ty.int IntKind.i64).pair ((Ty.int IntKind.i64).pair ((Ty.int IntKind.i64).pair Ty.unit)))).sl (Md.bor true false) p3), (46, AV.v (((Ty.int IntKind.i64).pair ((Ty.int IntKind.i64).pair ((Ty.int IntKind.i64).pair ((Ty.int IntKind.i64).pair ((Ty.int IntKind.i64).pair Ty.unit))))).sl.pair ((Ty.int IntKind.i64).pair ((Ty.int IntKind.i64).pair ((Ty.int IntKind.i64).pair Ty.unit)))).sl (Md.bor true false) p2), (47, AV.v (Ty.int IntKind.i64) (Md.bor false true) (↑p2.length : Int)), (48, AV.v (Ty.int IntKind.i64) (Md.bor false true) t48)]⟩
noncomputable def block_Check_L4 (nf : Nat) (G2 : St → Option (Int × Unit)) : LC (Int × Unit) := theL (findL tab (block_Check_phi nf) (fun _ F => iter nf F) block_Check_keep 4 2 (block_Check_L2 nf ).c (fun st => norm (block_Check_keep 2) st G2) (block_Check_L2 nf ).Kx (block_Check_L2 nf ).Kr)
def block_Check_m4 (vars : Int) (p : List (List (Int × Int × Int × Int × Int × Unit) × Int × Int × Int × Unit)) (p2 : List (List (Int × Int × Int × Int × Int × Unit) × Int × Int × Int × Unit)) (t48 : Int) (p4 : List (List (Int × Int × Int × Int × Int × Unit) × Int × Int × Int × Unit)) (b : List (Int × Int × Int × Int × Int × Unit) × Int × Int × Int × Unit) (t55 : Int) : St := ⟨fresh, [(0, AV.v (Ty.int IntKind.i64) (Md.bor false true) vars), (1, AV.v (((Ty.int IntKind.i64).pair ((Ty.int IntKind.i64).pair ((Ty.int IntKind.i64).pair ((Ty.int IntKind.i64).pair ((Ty.int IntKind.i64).pair Ty.unit))))).sl.pair ((Ty.int IntKind.i64).pair ((Ty.int IntKind.i64).pair ((Ty.int IntKind.i64).pair Ty.unit)))).sl (Md.bor true false) p), (3, AV.box 3 500003 (((Ty.int IntKind.i64).pair ((Ty.int IntKind.i64).pair ((Ty.int IntKind.i64).pair ((Ty.int IntKind.i64).pair ((Ty.int IntKind.i64).pair Ty.unit))))).sl.pair ((Ty.int IntKind.i64).pair ((Ty.int IntKind.i64).pair ((Ty.int IntKind.i64).pair Ty.unit)))).sl (Md.bor true false) p4), (9, AV.box 9 500009 (((Ty.int IntKind.i64).pair ((Ty.int IntKind.i64).pair ((Ty.int IntKind.i64).pair ((Ty.int IntKind.i64).pair ((Ty.int IntKind.i64).pair Ty.unit))))).sl.pair ((Ty.int IntKind.i64).pair ((Ty.int IntKind.i64).pair ((Ty.int IntKind.i64).pair Ty.unit)))) (Md.bor true false) b), (46, AV.v (((Ty.int IntKind.i64).pair ((Ty.int IntKind.i64).pair ((Ty.int IntKind.i64).pair ((Ty.int IntKind.i64).pair ((Ty.int IntKind.i64).pair Ty.unit))))).sl.pair ((Ty.int IntKind.i64).pair ((Ty.int IntKind.i64).pair ((Ty.int IntKind.i64).pair Ty.unit)))).sl (Md.bor true false) p2), (47, AV.v (Ty.int IntKind.i64) (Md.bor false true) (↑p2.length : Int)), (48, AV.v (Ty.int IntKind.i64) (Md.bor false true) t48), (52, AV.pl 9 9 [Stp.dr, Stp.fld 0]), (53, AV.v ((Ty.int IntKind.i64).pair ((Ty.int IntKind.i64).pair ((Ty.int IntKind.i64).pair ((Ty.int IntKind.i64).pair ((Ty.int IntKind.i64).pair Ty.unit))))).sl (Md.bor true false) (p2.getD t48.toNat ([], 0, 0, 0, ())).fst), (54, AV.v (Ty.int IntKind.i64) (Md.bor false true) (↑(List.length (p2.getD t48.toNat ([], 0, 0, 0, ())).fst) : Int)), (55, AV.v (Ty.int IntKind.i64) (Md.bor false true) t55)]⟩
theorem block_Check_h4 (nf : Nat) (G2 : St → Option (Int × Unit)) (vars : Int) (p : List (List (Int × Int × Int × Int × Int × Unit) × Int × Int × Int × Unit)) (p2 : List (List (Int × Int × Int × Int × Int × Unit) × Int × Int × Int × Unit)) (t48 : Int) (fu : Nat) (p4 : List (List (Int × Int × Int × Int × Int × Unit) × Int × Int × Int × Unit)) (b : List (Int × Int × Int × Int × Int × Unit) × Int × Int × Int × Unit) (t55 : Int) : iter (fu + 1) (LC.F tab (block_Check_phi nf) (fun _ F => iter nf F) block_Check_keep 4 (block_Check_L4 nf G2)) (block_Check_m4 vars p p2 t48 p4 b t55) = block_Check_b4 nf  vars p p2 t48 (fun p3 t48 => G2 (block_Check_m2 vars p p2 p3 t48)) (fun p4 b t55 => iter fu (LC.F tab (block_Check_phi nf) (fun _ F => iter nf F) block_Check_keep 4 (block_Check_L4 nf G2)) (block_Check_m4 vars p p2 t48 p4 b t55)) p4 b t55 := by kernel_rfl
theorem block_Check_e4 (nf : Nat) (G2 : St → Option (Int × Unit)) (vars : Int) (p : List (List (Int × Int × Int × Int × Int × Unit) × Int × Int × Int × Unit)) (p2 : List (List (Int × Int × Int × Int × Int × Unit) × Int × Int × Int × Unit)) (t48 : Int) : ∀ (fu : Nat) (p4 : List (List (Int × Int × Int × Int × Int × Unit) × Int × Int × Int × Unit)) (b : List (Int × Int × Int × Int × Int × Unit) × Int × Int × Int × Unit) (t55 : Int), iter fu (LC.F tab (block_Check_phi nf) (fun _ F => iter nf F) block_Check_keep 4 (block_Check_L4 nf G2)) (block_Check_m4 vars p p2 t48 p4 b t55) = block_Check_l4 nf vars p p2 t48 (fun p3 t48 => G2 (block_Check_m2 vars p p2 p3 t48)) fu p4 b t55 := by
  intro fu
  induction fu with
  | zero => intros; rfl
  | succ fu ih =>
    intro p4 b t55
    rw [block_Check_h4 nf G2 vars p p2 t48 fu p4 b t55]
    simp only [ih]
    rfl
theorem block_Check_h2 (nf : Nat)  (vars : Int) (p : List (List (Int × Int × Int × Int × Int × Unit) × Int × Int × Int × Unit)) (p2 : List (List (Int × Int × Int × Int × Int × Unit) × Int × Int × Int × Unit)) (fu : Nat) (p3 : List (List (Int × Int × Int × Int × Int × Unit) × Int × Int × Int × Unit)) (t48 : Int) : iter (fu + 1) (LC.F tab (block_Check_phi nf) (fun _ F => iter nf F) block_Check_keep 2 (block_Check_L2 nf )) (block_Check_m2 vars p p2 p3 t48) = block_Check_b2 nf (fun _ _ _ p3 v0 v1 v2 => iter nf (LC.F tab (block_Check_phi nf) (fun _ F => iter nf F) block_Check_keep 4 (block_Check_L4 nf (iter fu (LC.F tab (block_Check_phi nf) (fun _ F => iter nf F) block_Check_keep 2 (block_Check_L2 nf ))))) (block_Check_m4 vars p p2 p3 v0 v1 v2)) vars p p2  (fun p3 t48 => iter fu (LC.F tab (block_Check_phi nf) (fun _ F => iter nf F) block_Check_keep 2 (block_Check_L2 nf )) (block_Check_m2 vars p p2 p3 t48)) p3 t48 := by kernel_rfl
theorem block_Check_e2 (nf : Nat)  (vars : Int) (p : List (List (Int × Int × Int × Int × Int × Unit) × Int × Int × Int × Unit)) (p2 : List (List (Int × Int × Int × Int × Int × Unit) × Int × Int × Int × Unit)) : ∀ (fu : Nat) (p3 : List (List (Int × Int × Int × Int × Int × Unit) × Int × Int × Int × Unit)) (t48 : Int), iter fu (LC.F tab (block_Check_phi nf) (fun _ F => iter nf F) block_Check_keep 2 (block_Check_L2 nf )) (block_Check_m2 vars p p2 p3 t48) = block_Check_l2 nf vars p p2  fu p3 t48 := by
  intro fu
  induction fu with
  | zero => intros; rfl
  | succ fu ih =>
    intro p3 t48
    rw [block_Check_h2 nf  vars p p2 fu p3 t48]
    simp only [ih, block_Check_e4]
    rfl
theorem block_Check_h0 (nf : Nat)  (vars : Int) (p : List (List (Int × Int × Int × Int × Int × Unit) × Int × Int × Int × Unit)) (fu : Nat) (p2 : List (List (Int × Int × Int × Int × Int × Unit) × Int × Int × Int × Unit)) (many : Int) (t16 : Int) : iter (fu + 1) (LC.F tab (block_Check_phi nf) (fun _ F => iter nf F) block_Check_keep 0 (block_Check_L0 nf )) (block_Check_m0 vars p p2 many t16) = block_Check_b0 nf (fun _ _ p2 v0 v1 => iter nf (LC.F tab (block_Check_phi nf) (fun _ F => iter nf F) block_Check_keep 2 (block_Check_L2 nf )) (block_Check_m2 vars p p2 v0 v1)) vars p  (fun p2 many t16 => iter fu (LC.F tab (block_Check_phi nf) (fun _ F => iter nf F) block_Check_keep 0 (block_Check_L0 nf )) (block_Check_m0 vars p p2 many t16)) p2 many t16 := by kernel_rfl
theorem block_Check_e0 (nf : Nat)  (vars : Int) (p : List (List (Int × Int × Int × Int × Int × Unit) × Int × Int × Int × Unit)) : ∀ (fu : Nat) (p2 : List (List (Int × Int × Int × Int × Int × Unit) × Int × Int × Int × Unit)) (many : Int) (t16 : Int), iter fu (LC.F tab (block_Check_phi nf) (fun _ F => iter nf F) block_Check_keep 0 (block_Check_L0 nf )) (block_Check_m0 vars p p2 many t16) = block_Check_l0 nf vars p  fu p2 many t16 := by
  intro fu
  induction fu with
  | zero => intros; rfl
  | succ fu ih =>
    intro p2 many t16
    rw [block_Check_h0 nf  vars p fu p2 many t16]
    simp only [ih, block_Check_e2]
    rfl
theorem block_Check_eq (nf : Nat) (vars : Int) (p : List (List (Int × Int × Int × Int × Int × Unit) × Int × Int × Int × Unit)) : runF tab (block_Check_phi nf) block_Check_keep nf [PT.val (Ty.int IntKind.i64) (Md.bor true false), PT.val (((Ty.int IntKind.i64).pair ((Ty.int IntKind.i64).pair ((Ty.int IntKind.i64).pair ((Ty.int IntKind.i64).pair ((Ty.int IntKind.i64).pair Ty.unit))))).sl.pair ((Ty.int IntKind.i64).pair ((Ty.int IntKind.i64).pair ((Ty.int IntKind.i64).pair Ty.unit)))).sl (Md.bor true false)] [(Ty.int IntKind.i64, Md.bor false true)] (resL (none) Try.f95) (codeOf Try.f95) ⟨vars, p, ()⟩ = block_Check_f nf vars p := by
  have h : runF tab (block_Check_phi nf) block_Check_keep nf [PT.val (Ty.int IntKind.i64) (Md.bor true false), PT.val (((Ty.int IntKind.i64).pair ((Ty.int IntKind.i64).pair ((Ty.int IntKind.i64).pair ((Ty.int IntKind.i64).pair ((Ty.int IntKind.i64).pair Ty.unit))))).sl.pair ((Ty.int IntKind.i64).pair ((Ty.int IntKind.i64).pair ((Ty.int IntKind.i64).pair Ty.unit)))).sl (Md.bor true false)] [(Ty.int IntKind.i64, Md.bor false true)] (resL (none) Try.f95) (codeOf Try.f95) ⟨vars, p, ()⟩ = block_Check_p nf (fun p0 p1 v0 v1 v2 => iter nf (LC.F tab (block_Check_phi nf) (fun _ F => iter nf F) block_Check_keep 0 (block_Check_L0 nf)) (block_Check_m0 p0 p1 v0 v1 v2)) vars p := by kernel_rfl
  rw [h]
  simp only [block_Check_e0]
  rfl
def block_Check_F (nf : Nat) (x : denPs [.val (.int .i64) (.bor true false), .val (.sl (.pair (.sl (.pair (.int .i64) (.pair (.int .i64) (.pair (.int .i64) (.pair (.int .i64) (.pair (.int .i64) (.unit))))))) (.pair (.int .i64) (.pair (.int .i64) (.pair (.int .i64) (.unit)))))) (.bor true false)]) : Option (denL [(.int .i64, .bor false true)]) := block_Check_f nf x.1 x.2.1
def block_Check_C (nf : Nat) : Contract := ⟨[.val (.int .i64) (.bor true false), .val (.sl (.pair (.sl (.pair (.int .i64) (.pair (.int .i64) (.pair (.int .i64) (.pair (.int .i64) (.pair (.int .i64) (.unit))))))) (.pair (.int .i64) (.pair (.int .i64) (.pair (.int .i64) (.unit)))))) (.bor true false)], [(.int .i64, .bor false true)], block_Check_F nf, none⟩
theorem block_Check_ok : FnOK Try.prog 95 := ⟨Try.f95, codeOf Try.f95, Try.func95, by kernel_rfl, by kernel_rfl⟩
theorem block_Check_holds (nf : Nat) : Contract.Holds Try.prog 95 (block_Check_C nf) :=
  fn_holds (Φ := block_Check_phi nf) (keep := block_Check_keep) (n := nf) ⟨tabs.1, tabs.2, (ctx_cons block_step_ok (block_step_holds nf) (ctx_cons block_Check_1_ok (block_Check_1_holds nf) ctx_nil)), mixed⟩ (fn := Try.f95) ⟨Try.func95, by kernel_rfl, by kernel_rfl, by kernel_rfl⟩ (fun x => block_Check_eq nf x.1 x.2.1)

/-! codemason weak.wrong -/
def weak_wrong_tab : Tab := ⟨lookT [(2, .int .i64), (3, .int .i64), (4, .bool), (5, .int .u8), (6, .int .u8), (7, .pair (.int .i64) (.pair (.int .i64) (.pair (.bool) (.pair (.int .u8) (.unit))))), (8, .pair (.int .i64) (.pair (.int .i64) (.pair (.bool) (.pair (.int .u8) (.unit))))), (12, .int .u64), (21, .int .i32), (22, .sl (.pair (.int .i64) (.pair (.int .i64) (.pair (.int .i64) (.pair (.int .i64) (.unit)))))), (23, .int .i64), (26, .int .u32), (29, .sl (.int .i64)), (31, .pair (.int .i64) (.pair (.int .i64) (.pair (.int .i64) (.pair (.int .i64) (.unit))))), (32, .pair (.int .i64) (.pair (.int .i64) (.pair (.int .i64) (.pair (.int .i64) (.unit))))), (33, .int .u64), (44, .sl (.pair (.int .i64) (.pair (.int .i64) (.pair (.int .i64) (.pair (.int .i64) (.pair (.int .i64) (.unit))))))), (55, .sl (.pair (.int .i64) (.pair (.int .i64) (.unit)))), (65, .pair (.int .i64) (.pair (.int .i64) (.unit))), (66, .pair (.int .i64) (.pair (.int .i64) (.unit))), (86, .sl (.pair (.int .i64) (.pair (.int .i64) (.pair (.int .i64) (.pair (.int .i64) (.unit)))))), (94, .pair (.int .i64) (.pair (.int .i64) (.pair (.int .i64) (.pair (.int .i64) (.unit))))), (95, .pair (.int .i64) (.pair (.int .i64) (.pair (.int .i64) (.pair (.int .i64) (.unit))))), (96, .sl (.bool)), (101, .pair (.int .i64) (.pair (.int .i64) (.pair (.int .i64) (.pair (.int .i64) (.pair (.int .i64) (.unit)))))), (102, .pair (.int .i64) (.pair (.int .i64) (.pair (.int .i64) (.pair (.int .i64) (.pair (.int .i64) (.unit)))))), (104, .pair (.sl (.pair (.int .i64) (.pair (.int .i64) (.pair (.int .i64) (.pair (.int .i64) (.unit)))))) (.pair (.sl (.int .i64)) (.pair (.sl (.pair (.int .i64) (.pair (.int .i64) (.pair (.int .i64) (.pair (.int .i64) (.pair (.int .i64) (.unit))))))) (.unit)))), (105, .pair (.sl (.pair (.int .i64) (.pair (.int .i64) (.pair (.int .i64) (.pair (.int .i64) (.unit)))))) (.pair (.sl (.int .i64)) (.pair (.sl (.pair (.int .i64) (.pair (.int .i64) (.pair (.int .i64) (.pair (.int .i64) (.pair (.int .i64) (.unit))))))) (.unit)))), (119, .pair (.sl (.pair (.int .i64) (.pair (.int .i64) (.pair (.int .i64) (.pair (.int .i64) (.pair (.int .i64) (.unit))))))) (.pair (.int .i64) (.pair (.int .i64) (.pair (.int .i64) (.unit))))), (120, .pair (.sl (.pair (.int .i64) (.pair (.int .i64) (.pair (.int .i64) (.pair (.int .i64) (.pair (.int .i64) (.unit))))))) (.pair (.int .i64) (.pair (.int .i64) (.pair (.int .i64) (.unit))))), (121, .sl (.pair (.sl (.pair (.int .i64) (.pair (.int .i64) (.pair (.int .i64) (.pair (.int .i64) (.pair (.int .i64) (.unit))))))) (.pair (.int .i64) (.pair (.int .i64) (.pair (.int .i64) (.unit)))))), (142, .int .u8), (143, .int .u8), (146, .int .i32), (147, .int .i32)], lookM [(2, .bor false true), (3, .bor false true), (4, .bor false true), (5, .bor false true), (6, .bor false true), (7, .bor false true), (8, .bor false true), (12, .bor false true), (21, .bor false true), (22, .own false (.bor false false)), (23, .bor false true), (26, .bor false true), (29, .own false (.bor false false)), (31, .bor false true), (32, .bor false true), (33, .bor false true), (44, .own false (.bor false false)), (55, .own false (.bor false false)), (65, .bor false true), (66, .bor false true), (86, .own false (.bor false false)), (94, .bor false true), (95, .bor false true), (96, .own false (.bor false false)), (101, .bor false true), (102, .bor false true), (104, .bor true false), (105, .bor true false), (119, .bor true false), (120, .bor true false), (121, .own false (.pair (.bor true false) (.bor false true))), (142, .bor false true), (143, .bor false true), (146, .bor false true), (147, .bor false true)], hasT [138], hasT [9, 10, 11]⟩
theorem weak_wrong_tabs : TabOK Try.prog weak_wrong_tab ∧ EqOK Try.prog weak_wrong_tab := tab_ok (by kernel_rfl) (by kernel_rfl)
def weak_wrong_phi (nf : Nat) : Nat → Option Contract := lookC [(95, block_Check_C nf)]
def weak_wrong_keep : Nat → List Nat := lookK []
def weak_wrong_p (nf : Nat)  (vars : Int) (code' : List (Int × Int × Int × Int × Int × Unit)) : Option (Int × Unit) :=
  Option.bind (block_Check_f nf vars ([(code', (-1), (-1), 0, ())])) fun r =>
  some ((r.fst, ()))
def weak_wrong_f (nf : Nat) (vars : Int) (code' : List (Int × Int × Int × Int × Int × Unit)) : Option (Int × Unit) := weak_wrong_p nf  vars code'
theorem weak_wrong_eq (nf : Nat) (vars : Int) (code' : List (Int × Int × Int × Int × Int × Unit)) : runF weak_wrong_tab (weak_wrong_phi nf) weak_wrong_keep nf [PT.val (Ty.int IntKind.i64) (Md.bor true false), PT.val ((Ty.int IntKind.i64).pair ((Ty.int IntKind.i64).pair ((Ty.int IntKind.i64).pair ((Ty.int IntKind.i64).pair ((Ty.int IntKind.i64).pair Ty.unit))))).sl (Md.bor true false)] [(Ty.int IntKind.i64, Md.bor false true)] (resL (none) Try.f81) (codeOf Try.f81) ⟨vars, code', ()⟩ = weak_wrong_f nf vars code' := by
  have h : runF weak_wrong_tab (weak_wrong_phi nf) weak_wrong_keep nf [PT.val (Ty.int IntKind.i64) (Md.bor true false), PT.val ((Ty.int IntKind.i64).pair ((Ty.int IntKind.i64).pair ((Ty.int IntKind.i64).pair ((Ty.int IntKind.i64).pair ((Ty.int IntKind.i64).pair Ty.unit))))).sl (Md.bor true false)] [(Ty.int IntKind.i64, Md.bor false true)] (resL (none) Try.f81) (codeOf Try.f81) ⟨vars, code', ()⟩ = weak_wrong_p nf  vars code' := by kernel_rfl
  exact h
def weak_wrong_F (nf : Nat) (x : denPs [.val (.int .i64) (.bor true false), .val (.sl (.pair (.int .i64) (.pair (.int .i64) (.pair (.int .i64) (.pair (.int .i64) (.pair (.int .i64) (.unit))))))) (.bor true false)]) : Option (denL [(.int .i64, .bor false true)]) := weak_wrong_f nf x.1 x.2.1
def weak_wrong_C (nf : Nat) : Contract := ⟨[.val (.int .i64) (.bor true false), .val (.sl (.pair (.int .i64) (.pair (.int .i64) (.pair (.int .i64) (.pair (.int .i64) (.pair (.int .i64) (.unit))))))) (.bor true false)], [(.int .i64, .bor false true)], weak_wrong_F nf, none⟩
theorem weak_wrong_ok : FnOK Try.prog 81 := ⟨Try.f81, codeOf Try.f81, Try.func81, by kernel_rfl, by kernel_rfl⟩
theorem weak_wrong_holds (nf : Nat) : Contract.Holds Try.prog 81 (weak_wrong_C nf) :=
  fn_holds (Φ := weak_wrong_phi nf) (keep := weak_wrong_keep) (n := nf) ⟨weak_wrong_tabs.1, weak_wrong_tabs.2, (ctx_cons block_Check_ok (block_Check_holds nf) ctx_nil), mixed⟩ (fn := Try.f81) ⟨Try.func81, by kernel_rfl, by kernel_rfl, by kernel_rfl⟩ (fun x => weak_wrong_eq nf x.1 x.2.1)

/-! slices.Clone   int int  -/
def slices_Clone_phi (nf : Nat) : Nat → Option Contract := lookC []
def slices_Clone_keep : Nat → List Nat := lookK []
def slices_Clone_p (nf : Nat)  (s : List Int) : Option (List Int × Unit) :=
  bif s.isEmpty then
    both (some (([], ()))) (bif bimp false !s.isEmpty && ((List.length ([] : List Unit)) + s.length).ble lim then
      some (([] ++ s, ()))
    else
      none)
  else
    bif bimp false !s.isEmpty && ((List.length ([] : List Unit)) + s.length).ble lim then
      some (([] ++ s, ()))
    else
      none
def slices_Clone_f (nf : Nat) (s : List Int) : Option (List Int × Unit) := slices_Clone_p nf  s
theorem slices_Clone_eq (nf : Nat) (s : List Int) : runF tab (slices_Clone_phi nf) slices_Clone_keep nf [PT.val (Ty.int IntKind.i64).sl (Md.bor true false)] [((Ty.int IntKind.i64).sl, Md.own false (Md.bor false false))] (resL (none) Try.f84) (codeOf Try.f84) ⟨s, ()⟩ = slices_Clone_f nf s := by
  have h : runF tab (slices_Clone_phi nf) slices_Clone_keep nf [PT.val (Ty.int IntKind.i64).sl (Md.bor true false)] [((Ty.int IntKind.i64).sl, Md.own false (Md.bor false false))] (resL (none) Try.f84) (codeOf Try.f84) ⟨s, ()⟩ = slices_Clone_p nf  s := by kernel_rfl
  exact h
def slices_Clone_F (nf : Nat) (x : denPs [.val (.sl (.int .i64)) (.bor true false)]) : Option (denL [(.sl (.int .i64), .own false (.bor false false))]) := slices_Clone_f nf x.1
def slices_Clone_C (nf : Nat) : Contract := ⟨[.val (.sl (.int .i64)) (.bor true false)], [(.sl (.int .i64), .own false (.bor false false))], slices_Clone_F nf, none⟩
theorem slices_Clone_ok : FnOK Try.prog 84 := ⟨Try.f84, codeOf Try.f84, Try.func84, by kernel_rfl, by kernel_rfl⟩
theorem slices_Clone_holds (nf : Nat) : Contract.Holds Try.prog 84 (slices_Clone_C nf) :=
  fn_holds (Φ := slices_Clone_phi nf) (keep := slices_Clone_keep) (n := nf) ⟨tabs.1, tabs.2, ctx_nil, mixed⟩ (fn := Try.f84) ⟨Try.func84, by kernel_rfl, by kernel_rfl, by kernel_rfl⟩ (fun x => slices_Clone_eq nf x.1)

/-! codemason block.Do -/
def block_Do_phi (nf : Nat) : Nat → Option Contract := lookC [(67, term_Do_C nf)]
def block_Do_keep : Nat → List Nat := lookK [(0, [0, 1, 6, 7, 8])]
def block_Do_b0 (nf : Nat) (code' : List (Int × Int × Int × Int × Int × Unit)) (g0 : List Int → Int → Option (List Int × Unit)) (vars2 : List Int) (t8 : Int) : Option (List Int × Unit) :=
  bif decide (t8 < (↑code'.length : Int)) then
    bif inb t8 code'.length then
      bif (code'.getD t8.toNat (0, 0, 0, 0, 0, ())).fst == 1 then
        bif inb (code'.getD t8.toNat (0, 0, 0, 0, 0, ())).snd.fst vars2.length then
          g0 (vars2.set (Int.toNat (code'.getD t8.toNat (0, 0, 0, 0, 0, ())).snd.fst) (code'.getD t8.toNat (0, 0, 0, 0, 0, ())).snd.snd.snd.snd.fst) (IntKind.i64.wrap (t8 + 1))
        else
          none
      else
        bif (code'.getD t8.toNat (0, 0, 0, 0, 0, ())).fst == 2 then
          bif inb (code'.getD t8.toNat (0, 0, 0, 0, 0, ())).snd.snd.snd.snd.fst vars2.length then
            bif inb (code'.getD t8.toNat (0, 0, 0, 0, 0, ())).snd.fst vars2.length then
              g0 (vars2.set (Int.toNat (code'.getD t8.toNat (0, 0, 0, 0, 0, ())).snd.fst) (vars2.getD (Int.toNat (code'.getD t8.toNat (0, 0, 0, 0, 0, ())).snd.snd.snd.snd.fst) 0)) (IntKind.i64.wrap (t8 + 1))
            else
              none
          else
            none
        else
          bif inb (code'.getD t8.toNat (0, 0, 0, 0, 0, ())).snd.snd.fst vars2.length then
            bif inb (code'.getD t8.toNat (0, 0, 0, 0, 0, ())).snd.snd.snd.fst vars2.length then
              Option.bind (term_Do_f nf ((code'.getD t8.toNat (0, 0, 0, 0, 0, ())).fst) (vars2.getD (Int.toNat (code'.getD t8.toNat (0, 0, 0, 0, 0, ())).snd.snd.fst) 0) (vars2.getD (Int.toNat (code'.getD t8.toNat (0, 0, 0, 0, 0, ())).snd.snd.snd.fst) 0)) fun r =>
              bif inb (code'.getD t8.toNat (0, 0, 0, 0, 0, ())).snd.fst vars2.length then
                g0 (vars2.set (Int.toNat (code'.getD t8.toNat (0, 0, 0, 0, 0, ())).snd.fst) r.fst) (IntKind.i64.wrap (t8 + 1))
              else
                none
            else
              none
          else
            none
    else
      none
  else
    some ((vars2, ()))
def block_Do_p (nf : Nat) (l0 : List (Int × Int × Int × Int × Int × Unit) → List Int → Int → Option (List Int × Unit)) (code' : List (Int × Int × Int × Int × Int × Unit)) (vars : List Int) : Option (List Int × Unit) :=
  l0 code' vars 0
def block_Do_l0 (nf : Nat) (code' : List (Int × Int × Int × Int × Int × Unit)) : Nat → List Int → Int → Option (List Int × Unit)
  | 0, _, _ => none
  | fu + 1, vars2, t8 => block_Do_b0 nf  code'  (block_Do_l0 nf code'  fu) vars2 t8
def block_Do_f (nf : Nat) (code' : List (Int × Int × Int × Int × Int × Unit)) (vars : List Int) : Option (List Int × Unit) := block_Do_p nf (fun p0 v0 v1 => block_Do_l0 nf p0 nf v0 v1) code' vars
noncomputable def block_Do_L0 (nf : Nat) : LC (List Int × Unit) := theL (findL tab (block_Do_phi nf) (fun _ F => iter nf F) block_Do_keep 0 0 (codeOf Try.f85) (fin tab [((Ty.int IntKind.i64).sl, Md.own false (Md.bor false false))] (resL (some 1) Try.f85)) (fun _ _ => none) (fin tab [((Ty.int IntKind.i64).sl, Md.own false (Md.bor false false))] (resL (some 1) Try.f85)))
def block_Do_m0 (code' : List (Int × Int × Int × Int × Int × Unit)) (vars2 : List Int) (t8 : Int) : St := ⟨fresh, [(0, AV.v ((Ty.int IntKind.i64).pair ((Ty.int IntKind.i64).pair ((Ty.int IntKind.i64).pair ((Ty.int IntKind.i64).pair ((Ty.int IntKind.i64).pair Ty.unit))))).sl (Md.bor true false) code'), (1, AV.ow 500001 (Ty.int IntKind.i64).sl (Md.own false (Md.bor false false)) vars2), (6, AV.v ((Ty.int IntKind.i64).pair ((Ty.int IntKind.i64).pair ((Ty.int IntKind.i64).pair ((Ty.int IntKind.i64).pair ((Ty.int IntKind.i64).pair Ty.unit))))).sl (Md.bor true false) code'), (7, AV.v (Ty.int IntKind.i64) (Md.bor false true) (↑code'.length : Int)), (8, AV.v (Ty.int IntKind.i64) (Md.bor false true) t8)]⟩
theorem block_Do_h0 (nf : Nat)  (code' : List (Int × Int × Int × Int × Int × Unit)) (fu : Nat) (vars2 : List Int) (t8 : Int) : iter (fu + 1) (LC.F tab (block_Do_phi nf) (fun _ F => iter nf F) block_Do_keep 0 (block_Do_L0 nf )) (block_Do_m0 code' vars2 t8) = block_Do_b0 nf  code'  (fun vars2 t8 => iter fu (LC.F tab (block_Do_phi nf) (fun _ F => iter nf F) block_Do_keep 0 (block_Do_L0 nf )) (block_Do_m0 code' vars2 t8)) vars2 t8 := by kernel_rfl
theorem block_Do_e0 (nf : Nat)  (code' : List (Int × Int × Int × Int × Int × Unit)) : ∀ (fu : Nat) (vars2 : List Int) (t8 : Int), iter fu (LC.F tab (block_Do_phi nf) (fun _ F => iter nf F) block_Do_keep 0 (block_Do_L0 nf )) (block_Do_m0 code' vars2 t8) = block_Do_l0 nf code'  fu vars2 t8 := by
  intro fu
  induction fu with
  | zero => intros; rfl
  | succ fu ih =>
    intro vars2 t8
    rw [block_Do_h0 nf  code' fu vars2 t8]
    simp only [ih]
    rfl
theorem block_Do_eq (nf : Nat) (code' : List (Int × Int × Int × Int × Int × Unit)) (vars : List Int) : runF tab (block_Do_phi nf) block_Do_keep nf [PT.val ((Ty.int IntKind.i64).pair ((Ty.int IntKind.i64).pair ((Ty.int IntKind.i64).pair ((Ty.int IntKind.i64).pair ((Ty.int IntKind.i64).pair Ty.unit))))).sl (Md.bor true false), PT.val (Ty.int IntKind.i64).sl (Md.own false (Md.bor false false))] [((Ty.int IntKind.i64).sl, Md.own false (Md.bor false false))] (resL (some 1) Try.f85) (codeOf Try.f85) ⟨code', vars, ()⟩ = block_Do_f nf code' vars := by
  have h : runF tab (block_Do_phi nf) block_Do_keep nf [PT.val ((Ty.int IntKind.i64).pair ((Ty.int IntKind.i64).pair ((Ty.int IntKind.i64).pair ((Ty.int IntKind.i64).pair ((Ty.int IntKind.i64).pair Ty.unit))))).sl (Md.bor true false), PT.val (Ty.int IntKind.i64).sl (Md.own false (Md.bor false false))] [((Ty.int IntKind.i64).sl, Md.own false (Md.bor false false))] (resL (some 1) Try.f85) (codeOf Try.f85) ⟨code', vars, ()⟩ = block_Do_p nf (fun p0 v0 v1 => iter nf (LC.F tab (block_Do_phi nf) (fun _ F => iter nf F) block_Do_keep 0 (block_Do_L0 nf)) (block_Do_m0 p0 v0 v1)) code' vars := by kernel_rfl
  rw [h]
  simp only [block_Do_e0]
  rfl
def block_Do_F (nf : Nat) (x : denPs [.val (.sl (.pair (.int .i64) (.pair (.int .i64) (.pair (.int .i64) (.pair (.int .i64) (.pair (.int .i64) (.unit))))))) (.bor true false), .val (.sl (.int .i64)) (.own false (.bor false false))]) : Option (denL [(.sl (.int .i64), .own false (.bor false false))]) := block_Do_f nf x.1 x.2.1
def block_Do_C (nf : Nat) : Contract := ⟨[.val (.sl (.pair (.int .i64) (.pair (.int .i64) (.pair (.int .i64) (.pair (.int .i64) (.pair (.int .i64) (.unit))))))) (.bor true false), .val (.sl (.int .i64)) (.own false (.bor false false))], [(.sl (.int .i64), .own false (.bor false false))], block_Do_F nf, (some 1)⟩
theorem block_Do_ok : FnOK Try.prog 85 := ⟨Try.f85, codeOf Try.f85, Try.func85, by kernel_rfl, by kernel_rfl⟩
theorem block_Do_holds (nf : Nat) : Contract.Holds Try.prog 85 (block_Do_C nf) :=
  fn_holds (Φ := block_Do_phi nf) (keep := block_Do_keep) (n := nf) ⟨tabs.1, tabs.2, (ctx_cons term_Do_ok (term_Do_holds nf) ctx_nil), mixed⟩ (fn := Try.f85) ⟨Try.func85, by kernel_rfl, by kernel_rfl, by kernel_rfl⟩ (fun x => block_Do_eq nf x.1 x.2.1)

/-! codemason weak.Holds -/
def weak_Holds_phi (nf : Nat) : Nat → Option Contract := lookC [(20, term_Check_C nf), (24, term_Value_C nf), (81, weak_wrong_C nf), (84, slices_Clone_C nf), (85, block_Do_C nf)]
def weak_Holds_keep : Nat → List Nat := lookK []
def weak_Holds_p (nf : Nat)  (vars : Int) (pre : List (Int × Int × Int × Int × Unit)) (code' : List (Int × Int × Int × Int × Int × Unit)) (post : List (Int × Int × Int × Int × Unit)) (have' : List Int) : Option (Bool × Int × Unit) :=
  Option.bind (weak_wrong_f nf vars code') fun r =>
  bif r.fst != 0 then
    some ((false, r.fst, ()))
  else
    Option.bind (term_Check_f nf vars pre) fun r2 =>
    bif r2.fst != 0 then
      some ((false, r2.fst, ()))
    else
      Option.bind (term_Check_f nf vars post) fun r3 =>
      bif r3.fst != 0 then
        some ((false, r3.fst, ()))
      else
        Option.bind (term_Value_f nf vars pre have') fun r4 =>
        bif r4.snd.fst != 0 then
          some ((false, r4.snd.fst, ()))
        else
          Option.bind (slices_Clone_f nf have') fun r5 =>
          Option.bind (block_Do_f nf code' r5.fst) fun r6 =>
          Option.bind (term_Value_f nf vars post r6.fst) fun r7 =>
          bif r4.fst == 0 then
            some ((true, 0, ()))
          else
            some ((r7.fst != 0, 0, ()))
def weak_Holds_f (nf : Nat) (vars : Int) (pre : List (Int × Int × Int × Int × Unit)) (code' : List (Int × Int × Int × Int × Int × Unit)) (post : List (Int × Int × Int × Int × Unit)) (have' : List Int) : Option (Bool × Int × Unit) := weak_Holds_p nf  vars pre code' post have'
theorem weak_Holds_eq (nf : Nat) (vars : Int) (pre : List (Int × Int × Int × Int × Unit)) (code' : List (Int × Int × Int × Int × Int × Unit)) (post : List (Int × Int × Int × Int × Unit)) (have' : List Int) : runF tab (weak_Holds_phi nf) weak_Holds_keep nf [PT.val (Ty.int IntKind.i64) (Md.bor true false), PT.val ((Ty.int IntKind.i64).pair ((Ty.int IntKind.i64).pair ((Ty.int IntKind.i64).pair ((Ty.int IntKind.i64).pair Ty.unit)))).sl (Md.bor true false), PT.val ((Ty.int IntKind.i64).pair ((Ty.int IntKind.i64).pair ((Ty.int IntKind.i64).pair ((Ty.int IntKind.i64).pair ((Ty.int IntKind.i64).pair Ty.unit))))).sl (Md.bor true false), PT.val ((Ty.int IntKind.i64).pair ((Ty.int IntKind.i64).pair ((Ty.int IntKind.i64).pair ((Ty.int IntKind.i64).pair Ty.unit)))).sl (Md.bor true false), PT.val (Ty.int IntKind.i64).sl (Md.bor true false)] [(Ty.bool, Md.bor false true), (Ty.int IntKind.i64, Md.bor false true)] (resL (none) Try.f58) (codeOf Try.f58) ⟨vars, pre, code', post, have', ()⟩ = weak_Holds_f nf vars pre code' post have' := by
  have h : runF tab (weak_Holds_phi nf) weak_Holds_keep nf [PT.val (Ty.int IntKind.i64) (Md.bor true false), PT.val ((Ty.int IntKind.i64).pair ((Ty.int IntKind.i64).pair ((Ty.int IntKind.i64).pair ((Ty.int IntKind.i64).pair Ty.unit)))).sl (Md.bor true false), PT.val ((Ty.int IntKind.i64).pair ((Ty.int IntKind.i64).pair ((Ty.int IntKind.i64).pair ((Ty.int IntKind.i64).pair ((Ty.int IntKind.i64).pair Ty.unit))))).sl (Md.bor true false), PT.val ((Ty.int IntKind.i64).pair ((Ty.int IntKind.i64).pair ((Ty.int IntKind.i64).pair ((Ty.int IntKind.i64).pair Ty.unit)))).sl (Md.bor true false), PT.val (Ty.int IntKind.i64).sl (Md.bor true false)] [(Ty.bool, Md.bor false true), (Ty.int IntKind.i64, Md.bor false true)] (resL (none) Try.f58) (codeOf Try.f58) ⟨vars, pre, code', post, have', ()⟩ = weak_Holds_p nf  vars pre code' post have' := by kernel_rfl
  exact h
def weak_Holds_F (nf : Nat) (x : denPs [.val (.int .i64) (.bor true false), .val (.sl (.pair (.int .i64) (.pair (.int .i64) (.pair (.int .i64) (.pair (.int .i64) (.unit)))))) (.bor true false), .val (.sl (.pair (.int .i64) (.pair (.int .i64) (.pair (.int .i64) (.pair (.int .i64) (.pair (.int .i64) (.unit))))))) (.bor true false), .val (.sl (.pair (.int .i64) (.pair (.int .i64) (.pair (.int .i64) (.pair (.int .i64) (.unit)))))) (.bor true false), .val (.sl (.int .i64)) (.bor true false)]) : Option (denL [(.bool, .bor false true), (.int .i64, .bor false true)]) := weak_Holds_f nf x.1 x.2.1 x.2.2.1 x.2.2.2.1 x.2.2.2.2.1
def weak_Holds_C (nf : Nat) : Contract := ⟨[.val (.int .i64) (.bor true false), .val (.sl (.pair (.int .i64) (.pair (.int .i64) (.pair (.int .i64) (.pair (.int .i64) (.unit)))))) (.bor true false), .val (.sl (.pair (.int .i64) (.pair (.int .i64) (.pair (.int .i64) (.pair (.int .i64) (.pair (.int .i64) (.unit))))))) (.bor true false), .val (.sl (.pair (.int .i64) (.pair (.int .i64) (.pair (.int .i64) (.pair (.int .i64) (.unit)))))) (.bor true false), .val (.sl (.int .i64)) (.bor true false)], [(.bool, .bor false true), (.int .i64, .bor false true)], weak_Holds_F nf, none⟩
theorem weak_Holds_ok : FnOK Try.prog 58 := ⟨Try.f58, codeOf Try.f58, Try.func58, by kernel_rfl, by kernel_rfl⟩
theorem weak_Holds_holds (nf : Nat) : Contract.Holds Try.prog 58 (weak_Holds_C nf) :=
  fn_holds (Φ := weak_Holds_phi nf) (keep := weak_Holds_keep) (n := nf) ⟨tabs.1, tabs.2, (ctx_cons term_Check_ok (term_Check_holds nf) (ctx_cons term_Value_ok (term_Value_holds nf) (ctx_cons weak_wrong_ok (weak_wrong_holds nf) (ctx_cons slices_Clone_ok (slices_Clone_holds nf) (ctx_cons block_Do_ok (block_Do_holds nf) ctx_nil))))), mixed⟩ (fn := Try.f58) ⟨Try.func58, by kernel_rfl, by kernel_rfl, by kernel_rfl⟩ (fun x => weak_Holds_eq nf x.1 x.2.1 x.2.2.1 x.2.2.2.1 x.2.2.2.2.1)

/-! codemason codemasonlaw.WeakHolds -/
def law_WeakHolds_phi (nf : Nat) : Nat → Option Contract := lookC [(21, ref_TermsCheck_C nf), (26, ref_Term_C nf), (28, ref_HaveCheck_C nf), (55, law_codeCode_C nf), (57, ref_Doing_C nf), (58, weak_Holds_C nf)]
def law_WeakHolds_keep : Nat → List Nat := lookK []
def law_WeakHolds_p (nf : Nat)  (vars : Int) (pre : List (Int × Int × Int × Int × Unit)) (code' : List (Int × Int × Int × Int × Int × Unit)) (post : List (Int × Int × Int × Int × Unit)) (have' : List Int) : Option (Bool × Unit) :=
  Option.bind (weak_Holds_f nf vars pre code' post have') fun r =>
  Option.bind (law_codeCode_f nf vars code') fun r2 =>
  bif r2.fst == 0 then
    Option.bind (ref_TermsCheck_f nf vars pre) fun r3 =>
    bif r3.fst == 0 then
      Option.bind (ref_TermsCheck_f nf vars post) fun r4 =>
      bif r4.fst == 0 then
        Option.bind (ref_HaveCheck_f nf vars have') fun r5 =>
        bif r5.fst != 0 then
          bif r.snd.fst == r5.fst then
            some ((!r.fst, ()))
          else
            some ((false, ()))
        else
          bif r.snd.fst == 0 then
            Option.bind (ref_Term_f nf pre have') fun r6 =>
            bif r6.fst == 0 then
              some ((r.fst == true, ()))
            else
              Option.bind (ref_Doing_f nf code' have') fun r7 =>
              Option.bind (ref_Term_f nf post r7.fst) fun r8 =>
              some ((r.fst == (r8.fst != 0), ()))
          else
            some ((false, ()))
      else
        bif r4.fst != 0 then
          bif r.snd.fst == r4.fst then
            some ((!r.fst, ()))
          else
            some ((false, ()))
        else
          bif r.snd.fst == 0 then
            Option.bind (ref_Term_f nf pre have') fun r9 =>
            bif r9.fst == 0 then
              some ((r.fst == true, ()))
            else
              Option.bind (ref_Doing_f nf code' have') fun r10 =>
              Option.bind (ref_Term_f nf post r10.fst) fun r11 =>
              some ((r.fst == (r11.fst != 0), ()))
          else
            some ((false, ()))
    else
      bif r3.fst == 0 then
        Option.bind (ref_HaveCheck_f nf vars have') fun r12 =>
        bif r12.fst != 0 then
          bif r.snd.fst == r12.fst then
            some ((!r.fst, ()))
          else
            some ((false, ()))
        else
          bif r.snd.fst == 0 then
            Option.bind (ref_Term_f nf pre have') fun r13 =>
            bif r13.fst == 0 then
              some ((r.fst == true, ()))
            else
              Option.bind (ref_Doing_f nf code' have') fun r14 =>
              Option.bind (ref_Term_f nf post r14.fst) fun r15 =>
              some ((r.fst == (r15.fst != 0), ()))
          else
            some ((false, ()))
      else
        bif r3.fst != 0 then
          bif r.snd.fst == r3.fst then
            some ((!r.fst, ()))
          else
            some ((false, ()))
        else
          bif r.snd.fst == 0 then
            Option.bind (ref_Term_f nf pre have') fun r16 =>
            bif r16.fst == 0 then
              some ((r.fst == true, ()))
            else
              Option.bind (ref_Doing_f nf code' have') fun r17 =>
              Option.bind (ref_Term_f nf post r17.fst) fun r18 =>
              some ((r.fst == (r18.fst != 0), ()))
          else
            some ((false, ()))
  else
    bif r2.fst == 0 then
      Option.bind (ref_TermsCheck_f nf vars post) fun r19 =>
      bif r19.fst == 0 then
        Option.bind (ref_HaveCheck_f nf vars have') fun r20 =>
        bif r20.fst != 0 then
          bif r.snd.fst == r20.fst then
            some ((!r.fst, ()))
          else
            some ((false, ()))
        else
          bif r.snd.fst == 0 then
            Option.bind (ref_Term_f nf pre have') fun r21 =>
            bif r21.fst == 0 then
              some ((r.fst == true, ()))
            else
              Option.bind (ref_Doing_f nf code' have') fun r22 =>
              Option.bind (ref_Term_f nf post r22.fst) fun r23 =>
              some ((r.fst == (r23.fst != 0), ()))
          else
            some ((false, ()))
      else
        bif r19.fst != 0 then
          bif r.snd.fst == r19.fst then
            some ((!r.fst, ()))
          else
            some ((false, ()))
        else
          bif r.snd.fst == 0 then
            Option.bind (ref_Term_f nf pre have') fun r24 =>
            bif r24.fst == 0 then
              some ((r.fst == true, ()))
            else
              Option.bind (ref_Doing_f nf code' have') fun r25 =>
              Option.bind (ref_Term_f nf post r25.fst) fun r26 =>
              some ((r.fst == (r26.fst != 0), ()))
          else
            some ((false, ()))
    else
      bif r2.fst == 0 then
        Option.bind (ref_HaveCheck_f nf vars have') fun r27 =>
        bif r27.fst != 0 then
          bif r.snd.fst == r27.fst then
            some ((!r.fst, ()))
          else
            some ((false, ()))
        else
          bif r.snd.fst == 0 then
            Option.bind (ref_Term_f nf pre have') fun r28 =>
            bif r28.fst == 0 then
              some ((r.fst == true, ()))
            else
              Option.bind (ref_Doing_f nf code' have') fun r29 =>
              Option.bind (ref_Term_f nf post r29.fst) fun r30 =>
              some ((r.fst == (r30.fst != 0), ()))
          else
            some ((false, ()))
      else
        bif r2.fst != 0 then
          bif r.snd.fst == r2.fst then
            some ((!r.fst, ()))
          else
            some ((false, ()))
        else
          bif r.snd.fst == 0 then
            Option.bind (ref_Term_f nf pre have') fun r31 =>
            bif r31.fst == 0 then
              some ((r.fst == true, ()))
            else
              Option.bind (ref_Doing_f nf code' have') fun r32 =>
              Option.bind (ref_Term_f nf post r32.fst) fun r33 =>
              some ((r.fst == (r33.fst != 0), ()))
          else
            some ((false, ()))
def law_WeakHolds_f (nf : Nat) (vars : Int) (pre : List (Int × Int × Int × Int × Unit)) (code' : List (Int × Int × Int × Int × Int × Unit)) (post : List (Int × Int × Int × Int × Unit)) (have' : List Int) : Option (Bool × Unit) := law_WeakHolds_p nf  vars pre code' post have'
theorem law_WeakHolds_eq (nf : Nat) (vars : Int) (pre : List (Int × Int × Int × Int × Unit)) (code' : List (Int × Int × Int × Int × Int × Unit)) (post : List (Int × Int × Int × Int × Unit)) (have' : List Int) : runF tab (law_WeakHolds_phi nf) law_WeakHolds_keep nf [PT.val (Ty.int IntKind.i64) (Md.bor true false), PT.val ((Ty.int IntKind.i64).pair ((Ty.int IntKind.i64).pair ((Ty.int IntKind.i64).pair ((Ty.int IntKind.i64).pair Ty.unit)))).sl (Md.bor true false), PT.val ((Ty.int IntKind.i64).pair ((Ty.int IntKind.i64).pair ((Ty.int IntKind.i64).pair ((Ty.int IntKind.i64).pair ((Ty.int IntKind.i64).pair Ty.unit))))).sl (Md.bor true false), PT.val ((Ty.int IntKind.i64).pair ((Ty.int IntKind.i64).pair ((Ty.int IntKind.i64).pair ((Ty.int IntKind.i64).pair Ty.unit)))).sl (Md.bor true false), PT.val (Ty.int IntKind.i64).sl (Md.bor true false)] [(Ty.bool, Md.bor false true)] (resL (none) Try.f17) (codeOf Try.f17) ⟨vars, pre, code', post, have', ()⟩ = law_WeakHolds_f nf vars pre code' post have' := by
  have h : runF tab (law_WeakHolds_phi nf) law_WeakHolds_keep nf [PT.val (Ty.int IntKind.i64) (Md.bor true false), PT.val ((Ty.int IntKind.i64).pair ((Ty.int IntKind.i64).pair ((Ty.int IntKind.i64).pair ((Ty.int IntKind.i64).pair Ty.unit)))).sl (Md.bor true false), PT.val ((Ty.int IntKind.i64).pair ((Ty.int IntKind.i64).pair ((Ty.int IntKind.i64).pair ((Ty.int IntKind.i64).pair ((Ty.int IntKind.i64).pair Ty.unit))))).sl (Md.bor true false), PT.val ((Ty.int IntKind.i64).pair ((Ty.int IntKind.i64).pair ((Ty.int IntKind.i64).pair ((Ty.int IntKind.i64).pair Ty.unit)))).sl (Md.bor true false), PT.val (Ty.int IntKind.i64).sl (Md.bor true false)] [(Ty.bool, Md.bor false true)] (resL (none) Try.f17) (codeOf Try.f17) ⟨vars, pre, code', post, have', ()⟩ = law_WeakHolds_p nf  vars pre code' post have' := by kernel_rfl
  exact h
def law_WeakHolds_F (nf : Nat) (x : denPs [.val (.int .i64) (.bor true false), .val (.sl (.pair (.int .i64) (.pair (.int .i64) (.pair (.int .i64) (.pair (.int .i64) (.unit)))))) (.bor true false), .val (.sl (.pair (.int .i64) (.pair (.int .i64) (.pair (.int .i64) (.pair (.int .i64) (.pair (.int .i64) (.unit))))))) (.bor true false), .val (.sl (.pair (.int .i64) (.pair (.int .i64) (.pair (.int .i64) (.pair (.int .i64) (.unit)))))) (.bor true false), .val (.sl (.int .i64)) (.bor true false)]) : Option (denL [(.bool, .bor false true)]) := law_WeakHolds_f nf x.1 x.2.1 x.2.2.1 x.2.2.2.1 x.2.2.2.2.1
def law_WeakHolds_C (nf : Nat) : Contract := ⟨[.val (.int .i64) (.bor true false), .val (.sl (.pair (.int .i64) (.pair (.int .i64) (.pair (.int .i64) (.pair (.int .i64) (.unit)))))) (.bor true false), .val (.sl (.pair (.int .i64) (.pair (.int .i64) (.pair (.int .i64) (.pair (.int .i64) (.pair (.int .i64) (.unit))))))) (.bor true false), .val (.sl (.pair (.int .i64) (.pair (.int .i64) (.pair (.int .i64) (.pair (.int .i64) (.unit)))))) (.bor true false), .val (.sl (.int .i64)) (.bor true false)], [(.bool, .bor false true)], law_WeakHolds_F nf, none⟩
theorem law_WeakHolds_ok : FnOK Try.prog 17 := ⟨Try.f17, codeOf Try.f17, Try.func17, by kernel_rfl, by kernel_rfl⟩
theorem law_WeakHolds_holds (nf : Nat) : Contract.Holds Try.prog 17 (law_WeakHolds_C nf) :=
  fn_holds (Φ := law_WeakHolds_phi nf) (keep := law_WeakHolds_keep) (n := nf) ⟨tabs.1, tabs.2, (ctx_cons ref_TermsCheck_ok (ref_TermsCheck_holds nf) (ctx_cons ref_Term_ok (ref_Term_holds nf) (ctx_cons ref_HaveCheck_ok (ref_HaveCheck_holds nf) (ctx_cons law_codeCode_ok (law_codeCode_holds nf) (ctx_cons ref_Doing_ok (ref_Doing_holds nf) (ctx_cons weak_Holds_ok (weak_Holds_holds nf) ctx_nil)))))), mixed⟩ (fn := Try.f17) ⟨Try.func17, by kernel_rfl, by kernel_rfl, by kernel_rfl⟩ (fun x => law_WeakHolds_eq nf x.1 x.2.1 x.2.2.1 x.2.2.2.1 x.2.2.2.2.1)

/-! codemason codemasonref.Ints -/
def ref_Ints_phi (nf : Nat) : Nat → Option Contract := lookC []
def ref_Ints_keep : Nat → List Nat := lookK [(0, [0, 1, 5])]
def ref_Ints_b0 (nf : Nat) (a : List Int) (b : List Int) (g0 : Int → Option (Bool × Unit)) (i : Int) : Option (Bool × Unit) :=
  bif decide (i < (↑a.length : Int)) then
    bif inb i a.length then
      bif inb i b.length then
        bif a.getD i.toNat 0 != b.getD i.toNat 0 then
          some ((false, ()))
        else
          g0 (IntKind.i64.wrap (i + 1))
      else
        none
    else
      none
  else
    some ((true, ()))
def ref_Ints_p (nf : Nat) (l0 : List Int → List Int → Int → Option (Bool × Unit)) (a : List Int) (b : List Int) : Option (Bool × Unit) :=
  bif (↑a.length : Int) != (↑b.length : Int) then
    some ((false, ()))
  else
    l0 a b 0
def ref_Ints_l0 (nf : Nat) (a : List Int) (b : List Int) : Nat → Int → Option (Bool × Unit)
  | 0, _ => none
  | fu + 1, i => ref_Ints_b0 nf  a b  (ref_Ints_l0 nf a b  fu) i
def ref_Ints_f (nf : Nat) (a : List Int) (b : List Int) : Option (Bool × Unit) := ref_Ints_p nf (fun p0 p1 v0 => ref_Ints_l0 nf p0 p1 nf v0) a b
noncomputable def ref_Ints_L0 (nf : Nat) : LC (Bool × Unit) := theL (findL tab (ref_Ints_phi nf) (fun _ F => iter nf F) ref_Ints_keep 0 0 (codeOf Try.f34) (fin tab [(Ty.bool, Md.bor false true)] (resL (none) Try.f34)) (fun _ _ => none) (fin tab [(Ty.bool, Md.bor false true)] (resL (none) Try.f34)))
def ref_Ints_m0 (a : List Int) (b : List Int) (i : Int) : St := ⟨fresh, [(0, AV.v (Ty.int IntKind.i64).sl (Md.bor true false) a), (1, AV.v (Ty.int IntKind.i64).sl (Md.bor true false) b), (5, AV.v (Ty.int IntKind.i64) (Md.bor false true) i)]⟩
theorem ref_Ints_h0 (nf : Nat)  (a : List Int) (b : List Int) (fu : Nat) (i : Int) : iter (fu + 1) (LC.F tab (ref_Ints_phi nf) (fun _ F => iter nf F) ref_Ints_keep 0 (ref_Ints_L0 nf )) (ref_Ints_m0 a b i) = ref_Ints_b0 nf  a b  (fun i => iter fu (LC.F tab (ref_Ints_phi nf) (fun _ F => iter nf F) ref_Ints_keep 0 (ref_Ints_L0 nf )) (ref_Ints_m0 a b i)) i := by kernel_rfl
theorem ref_Ints_e0 (nf : Nat)  (a : List Int) (b : List Int) : ∀ (fu : Nat) (i : Int), iter fu (LC.F tab (ref_Ints_phi nf) (fun _ F => iter nf F) ref_Ints_keep 0 (ref_Ints_L0 nf )) (ref_Ints_m0 a b i) = ref_Ints_l0 nf a b  fu i := by
  intro fu
  induction fu with
  | zero => intros; rfl
  | succ fu ih =>
    intro i
    rw [ref_Ints_h0 nf  a b fu i]
    simp only [ih]
    rfl
theorem ref_Ints_eq (nf : Nat) (a : List Int) (b : List Int) : runF tab (ref_Ints_phi nf) ref_Ints_keep nf [PT.val (Ty.int IntKind.i64).sl (Md.bor true false), PT.val (Ty.int IntKind.i64).sl (Md.bor true false)] [(Ty.bool, Md.bor false true)] (resL (none) Try.f34) (codeOf Try.f34) ⟨a, b, ()⟩ = ref_Ints_f nf a b := by
  have h : runF tab (ref_Ints_phi nf) ref_Ints_keep nf [PT.val (Ty.int IntKind.i64).sl (Md.bor true false), PT.val (Ty.int IntKind.i64).sl (Md.bor true false)] [(Ty.bool, Md.bor false true)] (resL (none) Try.f34) (codeOf Try.f34) ⟨a, b, ()⟩ = ref_Ints_p nf (fun p0 p1 v0 => iter nf (LC.F tab (ref_Ints_phi nf) (fun _ F => iter nf F) ref_Ints_keep 0 (ref_Ints_L0 nf)) (ref_Ints_m0 p0 p1 v0)) a b := by kernel_rfl
  rw [h]
  simp only [ref_Ints_e0]
  rfl
def ref_Ints_F (nf : Nat) (x : denPs [.val (.sl (.int .i64)) (.bor true false), .val (.sl (.int .i64)) (.bor true false)]) : Option (denL [(.bool, .bor false true)]) := ref_Ints_f nf x.1 x.2.1
def ref_Ints_C (nf : Nat) : Contract := ⟨[.val (.sl (.int .i64)) (.bor true false), .val (.sl (.int .i64)) (.bor true false)], [(.bool, .bor false true)], ref_Ints_F nf, none⟩
theorem ref_Ints_ok : FnOK Try.prog 34 := ⟨Try.f34, codeOf Try.f34, Try.func34, by kernel_rfl, by kernel_rfl⟩
theorem ref_Ints_holds (nf : Nat) : Contract.Holds Try.prog 34 (ref_Ints_C nf) :=
  fn_holds (Φ := ref_Ints_phi nf) (keep := ref_Ints_keep) (n := nf) ⟨tabs.1, tabs.2, ctx_nil, mixed⟩ (fn := Try.f34) ⟨Try.func34, by kernel_rfl, by kernel_rfl, by kernel_rfl⟩ (fun x => ref_Ints_eq nf x.1 x.2.1)
end
end Go.Proofs.Ytpnganfbonlphaa.S
