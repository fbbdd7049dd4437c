/- The functions of the code, as plain functions, and the theorems that say so: made by a program of this proof's own. -/
import Derived.Test.YtokjogplnoeicaaFn1
import Derived.Test.YtokjogplnoeicaaChecked
namespace Go.Proofs.Ytokjogplnoeicaa.S
open Go Go.Ab

/-! codemason block.Do -/
def block_Do_phi (nf : Nat) : Nat → Option Contract := lookC [(112, term_Do_C nf)]
def block_Do_keep : Nat → List Nat := lookK [(0, [0, 1, 6, 7, 8])]
def block_Do_b0 (nf : Nat) (code' : List (Int × Int × Int × Int × Int × Unit)) (g0 : List Int → Int → Option (List Int × Unit)) (vars2 : List Int) (t8 : Int) : Option (List Int × Unit) :=
  bif decide (t8 < (↑code'.length : Int)) then
    bif inb t8 code'.length then
      bif (code'.getD t8.toNat (0, 0, 0, 0, 0, ())).fst == 1 then
        bif inb (code'.getD t8.toNat (0, 0, 0, 0, 0, ())).snd.fst vars2.length then
          g0 (vars2.set (Int.toNat (code'.getD t8.toNat (0, 0, 0, 0, 0, ())).snd.fst) (code'.getD t8.toNat (0, 0, 0, 0, 0, ())).snd.snd.snd.snd.fst) (IntKind.i64.wrap (t8 + 1))
        else
          none
      else
        bif (code'.getD t8.toNat (0, 0, 0, 0, 0, ())).fst == 2 then
          bif inb (code'.getD t8.toNat (0, 0, 0, 0, 0, ())).snd.snd.snd.snd.fst vars2.length then
            bif inb (code'.getD t8.toNat (0, 0, 0, 0, 0, ())).snd.fst vars2.length then
              g0 (vars2.set (Int.toNat (code'.getD t8.toNat (0, 0, 0, 0, 0, ())).snd.fst) (vars2.getD (Int.toNat (code'.getD t8.toNat (0, 0, 0, 0, 0, ())).snd.snd.snd.snd.fst) 0)) (IntKind.i64.wrap (t8 + 1))
            else
              none
          else
            none
        else
          bif inb (code'.getD t8.toNat (0, 0, 0, 0, 0, ())).snd.snd.fst vars2.length then
            bif inb (code'.getD t8.toNat (0, 0, 0, 0, 0, ())).snd.snd.snd.fst vars2.length then
              Option.bind (term_Do_f nf ((code'.getD t8.toNat (0, 0, 0, 0, 0, ())).fst) (vars2.getD (Int.toNat (code'.getD t8.toNat (0, 0, 0, 0, 0, ())).snd.snd.fst) 0) (vars2.getD (Int.toNat (code'.getD t8.toNat (0, 0, 0, 0, 0, ())).snd.snd.snd.fst) 0)) fun r =>
              bif inb (code'.getD t8.toNat (0, 0, 0, 0, 0, ())).snd.fst vars2.length then
                g0 (vars2.set (Int.toNat (code'.getD t8.toNat (0, 0, 0, 0, 0, ())).snd.fst) r.fst) (IntKind.i64.wrap (t8 + 1))
              else
                none
            else
              none
          else
            none
    else
      none
  else
    some ((vars2, ()))
def block_Do_p (nf : Nat) (l0 : List (Int × Int × Int × Int × Int × Unit) → List Int → Int → Option (List Int × Unit)) (code' : List (Int × Int × Int × Int × Int × Unit)) (vars : List Int) : Option (List Int × Unit) :=
  l0 code' vars 0
def block_Do_l0 (nf : Nat) (code' : List (Int × Int × Int × Int × Int × Unit)) : Nat → List Int → Int → Option (List Int × Unit)
  | 0, _, _ => none
  | fu + 1, vars2, t8 => block_Do_b0 nf  code'  (block_Do_l0 nf code'  fu) vars2 t8
def block_Do_f (nf : Nat) (code' : List (Int × Int × Int × Int × Int × Unit)) (vars : List Int) : Option (List Int × Unit) := block_Do_p nf (fun p0 v0 v1 => block_Do_l0 nf p0 nf v0 v1) code' vars
noncomputable def block_Do_L0 (nf : Nat) : LC (List Int × Unit) := theL (findL tab (block_Do_phi nf) (fun _ F => iter nf F) block_Do_keep 0 0 (codeOf Try.f69) (fin tab [((Ty.int IntKind.i64).sl, Md.own false (Md.bor false false))] (resL (some 1) Try.f69)) (fun _ _ => none) (fin tab [((Ty.int IntKind.i64).sl, Md.own false (Md.bor false false))] (resL (some 1) Try.f69)))
def block_Do_m0 (code' : List (Int × Int × Int × Int × Int × Unit)) (vars2 : List Int) (t8 : Int) : St := ⟨fresh, [(0, AV.v ((Ty.int IntKind.i64).pair ((Ty.int IntKind.i64).pair ((Ty.int IntKind.i64).pair ((Ty.int IntKind.i64).pair ((Ty.int IntKind.i64).pair Ty.unit))))).sl (Md.bor true false) code'), (1, AV.ow 500001 (Ty.int IntKind.i64).sl (Md.own false (Md.bor false false)) vars2), (6, AV.v ((Ty.int IntKind.i64).pair ((Ty.int IntKind.i64).pair ((Ty.int IntKind.i64).pair ((Ty.int IntKind.i64).pair ((Ty.int IntKind.i64).pair Ty.unit))))).sl (Md.bor true false) code'), (7, AV.v (Ty.int IntKind.i64) (Md.bor false true) (↑code'.length : Int)), (8, AV.v (Ty.int IntKind.i64) (Md.bor false true) t8)]⟩
theorem block_Do_h0 (nf : Nat)  (code' : List (Int × Int × Int × Int × Int × Unit)) (fu : Nat) (vars2 : List Int) (t8 : Int) : iter (fu + 1) (LC.F tab (block_Do_phi nf) (fun _ F => iter nf F) block_Do_keep 0 (block_Do_L0 nf )) (block_Do_m0 code' vars2 t8) = block_Do_b0 nf  code'  (fun vars2 t8 => iter fu (LC.F tab (block_Do_phi nf) (fun _ F => iter nf F) block_Do_keep 0 (block_Do_L0 nf )) (block_Do_m0 code' vars2 t8)) vars2 t8 := by kernel_rfl
theorem block_Do_e0 (nf : Nat)  (code' : List (Int × Int × Int × Int × Int × Unit)) : ∀ (fu : Nat) (vars2 : List Int) (t8 : Int), iter fu (LC.F tab (block_Do_phi nf) (fun _ F => iter nf F) block_Do_keep 0 (block_Do_L0 nf )) (block_Do_m0 code' vars2 t8) = block_Do_l0 nf code'  fu vars2 t8 := by
  intro fu
  induction fu with
  | zero => intros; rfl
  | succ fu ih =>
    intro vars2 t8
    rw [block_Do_h0 nf  code' fu vars2 t8]
    simp only [ih]
    rfl
theorem block_Do_eq (nf : Nat) (code' : List (Int × Int × Int × Int × Int × Unit)) (vars : List Int) : runF tab (block_Do_phi nf) block_Do_keep nf [PT.val ((Ty.int IntKind.i64).pair ((Ty.int IntKind.i64).pair ((Ty.int IntKind.i64).pair ((Ty.int IntKind.i64).pair ((Ty.int IntKind.i64).pair Ty.unit))))).sl (Md.bor true false), PT.val (Ty.int IntKind.i64).sl (Md.own false (Md.bor false false))] [((Ty.int IntKind.i64).sl, Md.own false (Md.bor false false))] (resL (some 1) Try.f69) (codeOf Try.f69) ⟨code', vars, ()⟩ = block_Do_f nf code' vars := by
  have h : runF tab (block_Do_phi nf) block_Do_keep nf [PT.val ((Ty.int IntKind.i64).pair ((Ty.int IntKind.i64).pair ((Ty.int IntKind.i64).pair ((Ty.int IntKind.i64).pair ((Ty.int IntKind.i64).pair Ty.unit))))).sl (Md.bor true false), PT.val (Ty.int IntKind.i64).sl (Md.own false (Md.bor false false))] [((Ty.int IntKind.i64).sl, Md.own false (Md.bor false false))] (resL (some 1) Try.f69) (codeOf Try.f69) ⟨code', vars, ()⟩ = block_Do_p nf (fun p0 v0 v1 => iter nf (LC.F tab (block_Do_phi nf) (fun _ F => iter nf F) block_Do_keep 0 (block_Do_L0 nf)) (block_Do_m0 p0 v0 v1)) code' vars := by kernel_rfl
  rw [h]
  simp only [block_Do_e0]
  rfl
def block_Do_F (nf : Nat) (x : denPs [.val (.sl (.pair (.int .i64) (.pair (.int .i64) (.pair (.int .i64) (.pair (.int .i64) (.pair (.int .i64) (.unit))))))) (.bor true false), .val (.sl (.int .i64)) (.own false (.bor false false))]) : Option (denL [(.sl (.int .i64), .own false (.bor false false))]) := block_Do_f nf x.1 x.2.1
def block_Do_C (nf : Nat) : Contract := ⟨[.val (.sl (.pair (.int .i64) (.pair (.int .i64) (.pair (.int .i64) (.pair (.int .i64) (.pair (.int .i64) (.unit))))))) (.bor true false), .val (.sl (.int .i64)) (.own false (.bor false false))], [(.sl (.int .i64), .own false (.bor false false))], block_Do_F nf, (some 1)⟩
theorem block_Do_ok : FnOK Try.prog 69 := ⟨Try.f69, codeOf Try.f69, Try.func69, by kernel_rfl, by kernel_rfl⟩
theorem block_Do_holds (nf : Nat) : Contract.Holds Try.prog 69 (block_Do_C nf) :=
  fn_holds (Φ := block_Do_phi nf) (keep := block_Do_keep) (n := nf) ⟨tabs.1, tabs.2, (ctx_cons term_Do_ok (term_Do_holds nf) ctx_nil), mixed⟩ (fn := Try.f69) ⟨Try.func69, by kernel_rfl, by kernel_rfl, by kernel_rfl⟩ (fun x => block_Do_eq nf x.1 x.2.1)

/-! codemason block.Run -/
def block_Run_phi (nf : Nat) : Nat → Option Contract := lookC [(19, block_Check_C nf), (68, term_Have_C nf), (69, block_Do_C nf)]
def block_Run_keep : Nat → List Nat := lookK [(0, [1, 11, 12, 13, 29, 38])]
def block_Run_b0 (nf : Nat) (p : List (List (Int × Int × Int × Int × Int × Unit) × Int × Int × Int × Unit)) (g0 : List Int → List Int → Int → Option (List Int × List Int × Int × Unit)) (v : List Int) (was : List Int) (at' : Int) : Option (List Int × List Int × Int × Unit) :=
  bif decide (at' ≥ 0) then
    bif (↑was.length : Int) == 200 then
      some (([], [], 7, ()))
    else
      bif bimp false ![at'].isEmpty && (was.length + [at'].length).ble lim then
        bif inb at' p.length then
          Option.bind (block_Do_f nf ((p.getD at'.toNat ([], 0, 0, 0, ())).fst) v) fun r3 =>
          bif decide ((p.getD at'.toNat ([], 0, 0, 0, ())).snd.fst ≥ 0) then
            bif inb (p.getD at'.toNat ([], 0, 0, 0, ())).snd.fst (List.length r3.fst) then
              bif List.getD r3.fst (Int.toNat (p.getD at'.toNat ([], 0, 0, 0, ())).snd.fst) 0 == 0 then
                g0 r3.fst (was ++ [at']) ((p.getD at'.toNat ([], 0, 0, 0, ())).snd.snd.snd.fst)
              else
                g0 r3.fst (was ++ [at']) ((p.getD at'.toNat ([], 0, 0, 0, ())).snd.snd.fst)
            else
              none
          else
            g0 r3.fst (was ++ [at']) ((p.getD at'.toNat ([], 0, 0, 0, ())).snd.snd.fst)
        else
          none
      else
        none
  else
    some ((v, was, 0, ()))
def block_Run_p (nf : Nat) (l0 : List (List (Int × Int × Int × Int × Int × Unit) × Int × Int × Int × Unit) → List Int → List Int → Int → Option (List Int × List Int × Int × Unit)) (vars : Int) (p : List (List (Int × Int × Int × Int × Int × Unit) × Int × Int × Int × Unit)) (have' : List Int) : Option (List Int × List Int × Int × Unit) :=
  Option.bind (block_Check_f nf vars p) fun r =>
  bif r.fst != 0 then
    some (([], [], r.fst, ()))
  else
    Option.bind (term_Have_f nf vars have') fun r2 =>
    bif r2.fst != 0 then
      some (([], [], r2.fst, ()))
    else
      bif bimp false !have'.isEmpty && ((List.length ([] : List Unit)) + have'.length).ble lim then
        l0 p ([] ++ have') [] 0
      else
        none
def block_Run_l0 (nf : Nat) (p : List (List (Int × Int × Int × Int × Int × Unit) × Int × Int × Int × Unit)) : Nat → List Int → List Int → Int → Option (List Int × List Int × Int × Unit)
  | 0, _, _, _ => none
  | fu + 1, v, was, at' => block_Run_b0 nf  p  (block_Run_l0 nf p  fu) v was at'
def block_Run_f (nf : Nat) (vars : Int) (p : List (List (Int × Int × Int × Int × Int × Unit) × Int × Int × Int × Unit)) (have' : List Int) : Option (List Int × List Int × Int × Unit) := block_Run_p nf (fun p0 v0 v1 v2 => block_Run_l0 nf p0 nf v0 v1 v2) vars p have'
noncomputable def block_Run_L0 (nf : Nat) : LC (List Int × List Int × Int × Unit) := theL (findL tab (block_Run_phi nf) (fun _ F => iter nf F) block_Run_keep 0 0 (codeOf Try.f24) (fin tab [((Ty.int IntKind.i64).sl, Md.own false (Md.bor false false)), ((Ty.int IntKind.i64).sl, Md.own false (Md.bor false false)), (Ty.int IntKind.i64, Md.bor false true)] (resL (none) Try.f24)) (fun _ _ => none) (fin tab [((Ty.int IntKind.i64).sl, Md.own false (Md.bor false false)), ((Ty.int IntKind.i64).sl, Md.own false (Md.bor false false)), (Ty.int IntKind.i64, Md.bor false true)] (resL (none) Try.f24)))
def block_Run_m0 (p : List (List (Int × Int × Int × Int × Int × Unit) × Int × Int × Int × Unit)) (v : List Int) (was : List Int) (at' : Int) : St := ⟨fresh, [(1, AV.v (((Ty.int IntKind.i64).pair ((Ty.int IntKind.i64).pair ((Ty.int IntKind.i64).pair ((Ty.int IntKind.i64).pair ((Ty.int IntKind.i64).pair Ty.unit))))).sl.pair ((Ty.int IntKind.i64).pair ((Ty.int IntKind.i64).pair ((Ty.int IntKind.i64).pair Ty.unit)))).sl (Md.bor true false) p), (11, AV.ow 500011 (Ty.int IntKind.i64).sl (Md.own false (Md.bor false false)) v), (12, AV.ow 500012 (Ty.int IntKind.i64).sl (Md.own false (Md.bor false false)) was), (13, AV.v (Ty.int IntKind.i64) (Md.bor false true) at'), (29, AV.dead), (38, AV.dead)]⟩
theorem block_Run_h0 (nf : Nat)  (p : List (List (Int × Int × Int × Int × Int × Unit) × Int × Int × Int × Unit)) (fu : Nat) (v : List Int) (was : List Int) (at' : Int) : iter (fu + 1) (LC.F tab (block_Run_phi nf) (fun _ F => iter nf F) block_Run_keep 0 (block_Run_L0 nf )) (block_Run_m0 p v was at') = block_Run_b0 nf  p  (fun v was at' => iter fu (LC.F tab (block_Run_phi nf) (fun _ F => iter nf F) block_Run_keep 0 (block_Run_L0 nf )) (block_Run_m0 p v was at')) v was at' := by kernel_rfl
theorem block_Run_e0 (nf : Nat)  (p : List (List (Int × Int × Int × Int × Int × Unit) × Int × Int × Int × Unit)) : ∀ (fu : Nat) (v : List Int) (was : List Int) (at' : Int), iter fu (LC.F tab (block_Run_phi nf) (fun _ F => iter nf F) block_Run_keep 0 (block_Run_L0 nf )) (block_Run_m0 p v was at') = block_Run_l0 nf p  fu v was at' := by
  intro fu
  induction fu with
  | zero => intros; rfl
  | succ fu ih =>
    intro v was at'
    rw [block_Run_h0 nf  p fu v was at']
    simp only [ih]
    rfl
theorem block_Run_eq (nf : Nat) (vars : Int) (p : List (List (Int × Int × Int × Int × Int × Unit) × Int × Int × Int × Unit)) (have' : List Int) : runF tab (block_Run_phi nf) block_Run_keep nf [PT.val (Ty.int IntKind.i64) (Md.bor true false), PT.val (((Ty.int IntKind.i64).pair ((Ty.int IntKind.i64).pair ((Ty.int IntKind.i64).pair ((Ty.int IntKind.i64).pair ((Ty.int IntKind.i64).pair Ty.unit))))).sl.pair ((Ty.int IntKind.i64).pair ((Ty.int IntKind.i64).pair ((Ty.int IntKind.i64).pair Ty.unit)))).sl (Md.bor true false), PT.val (Ty.int IntKind.i64).sl (Md.bor true false)] [((Ty.int IntKind.i64).sl, Md.own false (Md.bor false false)), ((Ty.int IntKind.i64).sl, Md.own false (Md.bor false false)), (Ty.int IntKind.i64, Md.bor false true)] (resL (none) Try.f24) (codeOf Try.f24) ⟨vars, p, have', ()⟩ = block_Run_f nf vars p have' := by
  have h : runF tab (block_Run_phi nf) block_Run_keep nf [PT.val (Ty.int IntKind.i64) (Md.bor true false), PT.val (((Ty.int IntKind.i64).pair ((Ty.int IntKind.i64).pair ((Ty.int IntKind.i64).pair ((Ty.int IntKind.i64).pair ((Ty.int IntKind.i64).pair Ty.unit))))).sl.pair ((Ty.int IntKind.i64).pair ((Ty.int IntKind.i64).pair ((Ty.int IntKind.i64).pair Ty.unit)))).sl (Md.bor true false), PT.val (Ty.int IntKind.i64).sl (Md.bor true false)] [((Ty.int IntKind.i64).sl, Md.own false (Md.bor false false)), ((Ty.int IntKind.i64).sl, Md.own false (Md.bor false false)), (Ty.int IntKind.i64, Md.bor false true)] (resL (none) Try.f24) (codeOf Try.f24) ⟨vars, p, have', ()⟩ = block_Run_p nf (fun p0 v0 v1 v2 => iter nf (LC.F tab (block_Run_phi nf) (fun _ F => iter nf F) block_Run_keep 0 (block_Run_L0 nf)) (block_Run_m0 p0 v0 v1 v2)) vars p have' := by kernel_rfl
  rw [h]
  simp only [block_Run_e0]
  rfl
def block_Run_F (nf : Nat) (x : denPs [.val (.int .i64) (.bor true false), .val (.sl (.pair (.sl (.pair (.int .i64) (.pair (.int .i64) (.pair (.int .i64) (.pair (.int .i64) (.pair (.int .i64) (.unit))))))) (.pair (.int .i64) (.pair (.int .i64) (.pair (.int .i64) (.unit)))))) (.bor true false), .val (.sl (.int .i64)) (.bor true false)]) : Option (denL [(.sl (.int .i64), .own false (.bor false false)), (.sl (.int .i64), .own false (.bor false false)), (.int .i64, .bor false true)]) := block_Run_f nf x.1 x.2.1 x.2.2.1
def block_Run_C (nf : Nat) : Contract := ⟨[.val (.int .i64) (.bor true false), .val (.sl (.pair (.sl (.pair (.int .i64) (.pair (.int .i64) (.pair (.int .i64) (.pair (.int .i64) (.pair (.int .i64) (.unit))))))) (.pair (.int .i64) (.pair (.int .i64) (.pair (.int .i64) (.unit)))))) (.bor true false), .val (.sl (.int .i64)) (.bor true false)], [(.sl (.int .i64), .own false (.bor false false)), (.sl (.int .i64), .own false (.bor false false)), (.int .i64, .bor false true)], block_Run_F nf, none⟩
theorem block_Run_ok : FnOK Try.prog 24 := ⟨Try.f24, codeOf Try.f24, Try.func24, by kernel_rfl, by kernel_rfl⟩
theorem block_Run_holds (nf : Nat) : Contract.Holds Try.prog 24 (block_Run_C nf) :=
  fn_holds (Φ := block_Run_phi nf) (keep := block_Run_keep) (n := nf) ⟨tabs.1, tabs.2, (ctx_cons block_Check_ok (block_Check_holds nf) (ctx_cons term_Have_ok (term_Have_holds nf) (ctx_cons block_Do_ok (block_Do_holds nf) ctx_nil))), mixed⟩ (fn := Try.f24) ⟨Try.func24, by kernel_rfl, by kernel_rfl, by kernel_rfl⟩ (fun x => block_Run_eq nf x.1 x.2.1 x.2.2.1)

/-! codemason codemasonlaw.progCode -/
def law_progCode_phi (nf : Nat) : Nat → Option Contract := lookC [(20, ref_ProgCheck_C nf), (50, ref_HaveCheck_C nf)]
def law_progCode_keep : Nat → List Nat := lookK []
def law_progCode_p (nf : Nat)  (vars : Int) (p : List (List (Int × Int × Int × Int × Int × Unit) × Int × Int × Int × Unit)) (have' : List Int) : Option (Int × Unit) :=
  Option.bind (ref_ProgCheck_f nf vars p) fun r =>
  bif r.fst == 0 then
    Option.bind (ref_HaveCheck_f nf vars have') fun r2 =>
    some ((r2.fst, ()))
  else
    some ((r.fst, ()))
def law_progCode_f (nf : Nat) (vars : Int) (p : List (List (Int × Int × Int × Int × Int × Unit) × Int × Int × Int × Unit)) (have' : List Int) : Option (Int × Unit) := law_progCode_p nf  vars p have'
theorem law_progCode_eq (nf : Nat) (vars : Int) (p : List (List (Int × Int × Int × Int × Int × Unit) × Int × Int × Int × Unit)) (have' : List Int) : runF tab (law_progCode_phi nf) law_progCode_keep nf [PT.val (Ty.int IntKind.i64) (Md.bor true false), PT.val (((Ty.int IntKind.i64).pair ((Ty.int IntKind.i64).pair ((Ty.int IntKind.i64).pair ((Ty.int IntKind.i64).pair ((Ty.int IntKind.i64).pair Ty.unit))))).sl.pair ((Ty.int IntKind.i64).pair ((Ty.int IntKind.i64).pair ((Ty.int IntKind.i64).pair Ty.unit)))).sl (Md.bor true false), PT.val (Ty.int IntKind.i64).sl (Md.bor true false)] [(Ty.int IntKind.i64, Md.bor false true)] (resL (none) Try.f25) (codeOf Try.f25) ⟨vars, p, have', ()⟩ = law_progCode_f nf vars p have' := by
  have h : runF tab (law_progCode_phi nf) law_progCode_keep nf [PT.val (Ty.int IntKind.i64) (Md.bor true false), PT.val (((Ty.int IntKind.i64).pair ((Ty.int IntKind.i64).pair ((Ty.int IntKind.i64).pair ((Ty.int IntKind.i64).pair ((Ty.int IntKind.i64).pair Ty.unit))))).sl.pair ((Ty.int IntKind.i64).pair ((Ty.int IntKind.i64).pair ((Ty.int IntKind.i64).pair Ty.unit)))).sl (Md.bor true false), PT.val (Ty.int IntKind.i64).sl (Md.bor true false)] [(Ty.int IntKind.i64, Md.bor false true)] (resL (none) Try.f25) (codeOf Try.f25) ⟨vars, p, have', ()⟩ = law_progCode_p nf  vars p have' := by kernel_rfl
  exact h
def law_progCode_F (nf : Nat) (x : denPs [.val (.int .i64) (.bor true false), .val (.sl (.pair (.sl (.pair (.int .i64) (.pair (.int .i64) (.pair (.int .i64) (.pair (.int .i64) (.pair (.int .i64) (.unit))))))) (.pair (.int .i64) (.pair (.int .i64) (.pair (.int .i64) (.unit)))))) (.bor true false), .val (.sl (.int .i64)) (.bor true false)]) : Option (denL [(.int .i64, .bor false true)]) := law_progCode_f nf x.1 x.2.1 x.2.2.1
def law_progCode_C (nf : Nat) : Contract := ⟨[.val (.int .i64) (.bor true false), .val (.sl (.pair (.sl (.pair (.int .i64) (.pair (.int .i64) (.pair (.int .i64) (.pair (.int .i64) (.pair (.int .i64) (.unit))))))) (.pair (.int .i64) (.pair (.int .i64) (.pair (.int .i64) (.unit)))))) (.bor true false), .val (.sl (.int .i64)) (.bor true false)], [(.int .i64, .bor false true)], law_progCode_F nf, none⟩
theorem law_progCode_ok : FnOK Try.prog 25 := ⟨Try.f25, codeOf Try.f25, Try.func25, by kernel_rfl, by kernel_rfl⟩
theorem law_progCode_holds (nf : Nat) : Contract.Holds Try.prog 25 (law_progCode_C nf) :=
  fn_holds (Φ := law_progCode_phi nf) (keep := law_progCode_keep) (n := nf) ⟨tabs.1, tabs.2, (ctx_cons ref_ProgCheck_ok (ref_ProgCheck_holds nf) (ctx_cons ref_HaveCheck_ok (ref_HaveCheck_holds nf) ctx_nil)), mixed⟩ (fn := Try.f25) ⟨Try.func25, by kernel_rfl, by kernel_rfl, by kernel_rfl⟩ (fun x => law_progCode_eq nf x.1 x.2.1 x.2.2.1)

/-! codemason codemasonref.Doing -/
def ref_Doing_phi (nf : Nat) : Nat → Option Contract := lookC [(114, ref_Op_C nf)]
def ref_Doing_keep : Nat → List Nat := lookK [(0, [0, 1, 10, 11, 12, 13])]
def ref_Doing_b0 (nf : Nat) (code' : List (Int × Int × Int × Int × Int × Unit)) (g0 : List Int → Int → Option (List Int × Unit)) (v2 : List Int) (t13 : Int) : Option (List Int × Unit) :=
  bif decide (t13 < (↑code'.length : Int)) then
    bif inb t13 code'.length then
      bif (code'.getD t13.toNat (0, 0, 0, 0, 0, ())).fst == 2 then
        bif inb (code'.getD t13.toNat (0, 0, 0, 0, 0, ())).snd.snd.snd.snd.fst v2.length then
          bif decide ((code'.getD t13.toNat (0, 0, 0, 0, 0, ())).fst ≥ 3) then
            bif inb (code'.getD t13.toNat (0, 0, 0, 0, 0, ())).snd.snd.fst v2.length then
              bif inb (code'.getD t13.toNat (0, 0, 0, 0, 0, ())).snd.snd.snd.fst v2.length then
                Option.bind (ref_Op_f nf ((code'.getD t13.toNat (0, 0, 0, 0, 0, ())).fst) (v2.getD (Int.toNat (code'.getD t13.toNat (0, 0, 0, 0, 0, ())).snd.snd.fst) 0) (v2.getD (Int.toNat (code'.getD t13.toNat (0, 0, 0, 0, 0, ())).snd.snd.snd.fst) 0)) fun r =>
                bif inb (code'.getD t13.toNat (0, 0, 0, 0, 0, ())).snd.fst v2.length then
                  g0 (v2.set (Int.toNat (code'.getD t13.toNat (0, 0, 0, 0, 0, ())).snd.fst) r.fst) (IntKind.i64.wrap (t13 + 1))
                else
                  none
              else
                none
            else
              none
          else
            bif inb (code'.getD t13.toNat (0, 0, 0, 0, 0, ())).snd.fst v2.length then
              g0 (v2.set (Int.toNat (code'.getD t13.toNat (0, 0, 0, 0, 0, ())).snd.fst) (v2.getD (Int.toNat (code'.getD t13.toNat (0, 0, 0, 0, 0, ())).snd.snd.snd.snd.fst) 0)) (IntKind.i64.wrap (t13 + 1))
            else
              none
        else
          none
      else
        bif decide ((code'.getD t13.toNat (0, 0, 0, 0, 0, ())).fst ≥ 3) then
          bif inb (code'.getD t13.toNat (0, 0, 0, 0, 0, ())).snd.snd.fst v2.length then
            bif inb (code'.getD t13.toNat (0, 0, 0, 0, 0, ())).snd.snd.snd.fst v2.length then
              Option.bind (ref_Op_f nf ((code'.getD t13.toNat (0, 0, 0, 0, 0, ())).fst) (v2.getD (Int.toNat (code'.getD t13.toNat (0, 0, 0, 0, 0, ())).snd.snd.fst) 0) (v2.getD (Int.toNat (code'.getD t13.toNat (0, 0, 0, 0, 0, ())).snd.snd.snd.fst) 0)) fun r2 =>
              bif inb (code'.getD t13.toNat (0, 0, 0, 0, 0, ())).snd.fst v2.length then
                g0 (v2.set (Int.toNat (code'.getD t13.toNat (0, 0, 0, 0, 0, ())).snd.fst) r2.fst) (IntKind.i64.wrap (t13 + 1))
              else
                none
            else
              none
          else
            none
        else
          bif inb (code'.getD t13.toNat (0, 0, 0, 0, 0, ())).snd.fst v2.length then
            g0 (v2.set (Int.toNat (code'.getD t13.toNat (0, 0, 0, 0, 0, ())).snd.fst) (code'.getD t13.toNat (0, 0, 0, 0, 0, ())).snd.snd.snd.snd.fst) (IntKind.i64.wrap (t13 + 1))
          else
            none
    else
      none
  else
    some ((v2, ()))
def ref_Doing_p (nf : Nat) (l0 : List (Int × Int × Int × Int × Int × Unit) → List Int → Int → Option (List Int × Unit)) (code' : List (Int × Int × Int × Int × Int × Unit)) (v : List Int) : Option (List Int × Unit) :=
  bif bimp false !v.isEmpty && ((List.length ([] : List Unit)) + v.length).ble lim then
    l0 code' ([] ++ v) 0
  else
    none
def ref_Doing_l0 (nf : Nat) (code' : List (Int × Int × Int × Int × Int × Unit)) : Nat → List Int → Int → Option (List Int × Unit)
  | 0, _, _ => none
  | fu + 1, v2, t13 => ref_Doing_b0 nf  code'  (ref_Doing_l0 nf code'  fu) v2 t13
def ref_Doing_f (nf : Nat) (code' : List (Int × Int × Int × Int × Int × Unit)) (v : List Int) : Option (List Int × Unit) := ref_Doing_p nf (fun p0 v0 v1 => ref_Doing_l0 nf p0 nf v0 v1) code' v
noncomputable def ref_Doing_L0 (nf : Nat) : LC (List Int × Unit) := theL (findL tab (ref_Doing_phi nf) (fun _ F => iter nf F) ref_Doing_keep 0 0 (codeOf Try.f70) (fin tab [((Ty.int IntKind.i64).sl, Md.own false (Md.bor false false))] (resL (none) Try.f70)) (fun _ _ => none) (fin tab [((Ty.int IntKind.i64).sl, Md.own false (Md.bor false false))] (resL (none) Try.f70)))
def ref_Doing_m0 (code' : List (Int × Int × Int × Int × Int × Unit)) (v2 : List Int) (t13 : Int) : St := ⟨fresh, [(0, AV.v ((Ty.int IntKind.i64).pair ((Ty.int IntKind.i64).pair ((Ty.int IntKind.i64).pair ((Ty.int IntKind.i64).pair ((Ty.int IntKind.i64).pair Ty.unit))))).sl (Md.bor true false) code'), (1, AV.ow 500001 (Ty.int IntKind.i64).sl (Md.own false (Md.bor false false)) v2), (10, AV.dead), (11, AV.v ((Ty.int IntKind.i64).pair ((Ty.int IntKind.i64).pair ((Ty.int IntKind.i64).pair ((Ty.int IntKind.i64).pair ((Ty.int IntKind.i64).pair Ty.unit))))).sl (Md.bor true false) code'), (12, AV.v (Ty.int IntKind.i64) (Md.bor false true) (↑code'.length : Int)), (13, AV.v (Ty.int IntKind.i64) (Md.bor false true) t13)]⟩
theorem ref_Doing_h0 (nf : Nat)  (code' : List (Int × Int × Int × Int × Int × Unit)) (fu : Nat) (v2 : List Int) (t13 : Int) : iter (fu + 1) (LC.F tab (ref_Doing_phi nf) (fun _ F => iter nf F) ref_Doing_keep 0 (ref_Doing_L0 nf )) (ref_Doing_m0 code' v2 t13) = ref_Doing_b0 nf  code'  (fun v2 t13 => iter fu (LC.F tab (ref_Doing_phi nf) (fun _ F => iter nf F) ref_Doing_keep 0 (ref_Doing_L0 nf )) (ref_Doing_m0 code' v2 t13)) v2 t13 := by kernel_rfl
theorem ref_Doing_e0 (nf : Nat)  (code' : List (Int × Int × Int × Int × Int × Unit)) : ∀ (fu : Nat) (v2 : List Int) (t13 : Int), iter fu (LC.F tab (ref_Doing_phi nf) (fun _ F => iter nf F) ref_Doing_keep 0 (ref_Doing_L0 nf )) (ref_Doing_m0 code' v2 t13) = ref_Doing_l0 nf code'  fu v2 t13 := by
  intro fu
  induction fu with
  | zero => intros; rfl
  | succ fu ih =>
    intro v2 t13
    rw [ref_Doing_h0 nf  code' fu v2 t13]
    simp only [ih]
    rfl
theorem ref_Doing_eq (nf : Nat) (code' : List (Int × Int × Int × Int × Int × Unit)) (v : List Int) : runF tab (ref_Doing_phi nf) ref_Doing_keep nf [PT.val ((Ty.int IntKind.i64).pair ((Ty.int IntKind.i64).pair ((Ty.int IntKind.i64).pair ((Ty.int IntKind.i64).pair ((Ty.int IntKind.i64).pair Ty.unit))))).sl (Md.bor true false), PT.val (Ty.int IntKind.i64).sl (Md.bor true false)] [((Ty.int IntKind.i64).sl, Md.own false (Md.bor false false))] (resL (none) Try.f70) (codeOf Try.f70) ⟨code', v, ()⟩ = ref_Doing_f nf code' v := by
  have h : runF tab (ref_Doing_phi nf) ref_Doing_keep nf [PT.val ((Ty.int IntKind.i64).pair ((Ty.int IntKind.i64).pair ((Ty.int IntKind.i64).pair ((Ty.int IntKind.i64).pair ((Ty.int IntKind.i64).pair Ty.unit))))).sl (Md.bor true false), PT.val (Ty.int IntKind.i64).sl (Md.bor true false)] [((Ty.int IntKind.i64).sl, Md.own false (Md.bor false false))] (resL (none) Try.f70) (codeOf Try.f70) ⟨code', v, ()⟩ = ref_Doing_p nf (fun p0 v0 v1 => iter nf (LC.F tab (ref_Doing_phi nf) (fun _ F => iter nf F) ref_Doing_keep 0 (ref_Doing_L0 nf)) (ref_Doing_m0 p0 v0 v1)) code' v := by kernel_rfl
  rw [h]
  simp only [ref_Doing_e0]
  rfl
def ref_Doing_F (nf : Nat) (x : denPs [.val (.sl (.pair (.int .i64) (.pair (.int .i64) (.pair (.int .i64) (.pair (.int .i64) (.pair (.int .i64) (.unit))))))) (.bor true false), .val (.sl (.int .i64)) (.bor true false)]) : Option (denL [(.sl (.int .i64), .own false (.bor false false))]) := ref_Doing_f nf x.1 x.2.1
def ref_Doing_C (nf : Nat) : Contract := ⟨[.val (.sl (.pair (.int .i64) (.pair (.int .i64) (.pair (.int .i64) (.pair (.int .i64) (.pair (.int .i64) (.unit))))))) (.bor true false), .val (.sl (.int .i64)) (.bor true false)], [(.sl (.int .i64), .own false (.bor false false))], ref_Doing_F nf, none⟩
theorem ref_Doing_ok : FnOK Try.prog 70 := ⟨Try.f70, codeOf Try.f70, Try.func70, by kernel_rfl, by kernel_rfl⟩
theorem ref_Doing_holds (nf : Nat) : Contract.Holds Try.prog 70 (ref_Doing_C nf) :=
  fn_holds (Φ := ref_Doing_phi nf) (keep := ref_Doing_keep) (n := nf) ⟨tabs.1, tabs.2, (ctx_cons ref_Op_ok (ref_Op_holds nf) ctx_nil), mixed⟩ (fn := Try.f70) ⟨Try.func70, by kernel_rfl, by kernel_rfl, by kernel_rfl⟩ (fun x => ref_Doing_eq nf x.1 x.2.1)

/-! codemason codemasonref.Goes -/
def ref_Goes_phi (nf : Nat) : Nat → Option Contract := lookC [(70, ref_Doing_C nf)]
def ref_Goes_keep : Nat → List Nat := lookK [(0, [0, 1, 2, 9, 10, 20, 27]), (1000000, [0])]
def ref_Goes_b0 (nf : Nat) (p : List (List (Int × Int × Int × Int × Int × Unit) × Int × Int × Int × Unit)) (most : Int) (g0 : List Int → List Int → Int → Option (List Int × List Int × Bool × Unit)) (v2 : List Int) (was : List Int) (at' : Int) : Option (List Int × List Int × Bool × Unit) :=
  bif at' != (-1) then
    bif decide ((↑was.length : Int) ≥ most) then
      some (([], [], false, ()))
    else
      bif bimp false ![at'].isEmpty && (was.length + [at'].length).ble lim then
        bif inb at' p.length then
          Option.bind (ref_Doing_f nf ((p.getD at'.toNat ([], 0, 0, 0, ())).fst) v2) fun r2 =>
          bif inb at' p.length then
            bif decide ((p.getD at'.toNat ([], 0, 0, 0, ())).snd.fst ≥ 0) then
              bif inb at' p.length then
                bif inb (p.getD at'.toNat ([], 0, 0, 0, ())).snd.fst (List.length r2.fst) then
                  bif List.getD r2.fst (Int.toNat (p.getD at'.toNat ([], 0, 0, 0, ())).snd.fst) 0 == 0 then
                    bif inb at' p.length then
                      g0 r2.fst (was ++ [at']) ((p.getD at'.toNat ([], 0, 0, 0, ())).snd.snd.snd.fst)
                    else
                      none
                  else
                    bif inb at' p.length then
                      g0 r2.fst (was ++ [at']) ((p.getD at'.toNat ([], 0, 0, 0, ())).snd.snd.fst)
                    else
                      none
                else
                  none
              else
                none
            else
              bif inb at' p.length then
                g0 r2.fst (was ++ [at']) ((p.getD at'.toNat ([], 0, 0, 0, ())).snd.snd.fst)
              else
                none
          else
            none
        else
          none
      else
        none
  else
    some ((v2, was, true, ()))
def ref_Goes_p (nf : Nat) (l0 : List (List (Int × Int × Int × Int × Int × Unit) × Int × Int × Int × Unit) → Int → List Int → List Int → Int → Option (List Int × List Int × Bool × Unit)) (p : List (List (Int × Int × Int × Int × Int × Unit) × Int × Int × Int × Unit)) (v : List Int) (most : Int) : Option (List Int × List Int × Bool × Unit) :=
  bif decide ((↑(List.length ([] : List Unit)) : Int) ≥ most) then
    some (([], [], false, ()))
  else
    bif inb 0 p.length then
      Option.bind (ref_Doing_f nf ((p.getD 0 ([], 0, 0, 0, ())).fst) v) fun r =>
      bif inb 0 p.length then
        bif decide ((p.getD 0 ([], 0, 0, 0, ())).snd.fst ≥ 0) then
          bif inb 0 p.length then
            bif inb (p.getD 0 ([], 0, 0, 0, ())).snd.fst (List.length r.fst) then
              bif List.getD r.fst (Int.toNat (p.getD 0 ([], 0, 0, 0, ())).snd.fst) 0 == 0 then
                bif inb 0 p.length then
                  l0 p most r.fst ([] ++ [0]) ((p.getD 0 ([], 0, 0, 0, ())).snd.snd.snd.fst)
                else
                  none
              else
                bif inb 0 p.length then
                  l0 p most r.fst ([] ++ [0]) ((p.getD 0 ([], 0, 0, 0, ())).snd.snd.fst)
                else
                  none
            else
              none
          else
            none
        else
          bif inb 0 p.length then
            l0 p most r.fst ([] ++ [0]) ((p.getD 0 ([], 0, 0, 0, ())).snd.snd.fst)
          else
            none
      else
        none
    else
      none
def ref_Goes_l0 (nf : Nat) (p : List (List (Int × Int × Int × Int × Int × Unit) × Int × Int × Int × Unit)) (most : Int) : Nat → List Int → List Int → Int → Option (List Int × List Int × Bool × Unit)
  | 0, _, _, _ => none
  | fu + 1, v2, was, at' => ref_Goes_b0 nf  p most  (ref_Goes_l0 nf p most  fu) v2 was at'
def ref_Goes_f (nf : Nat) (p : List (List (Int × Int × Int × Int × Int × Unit) × Int × Int × Int × Unit)) (v : List Int) (most : Int) : Option (List Int × List Int × Bool × Unit) := ref_Goes_p nf (fun p0 p1 v0 v1 v2 => ref_Goes_l0 nf p0 p1 nf v0 v1 v2) p v most
noncomputable def ref_Goes_L0 (nf : Nat) : LC (List Int × List Int × Bool × Unit) := theL (findL tab (ref_Goes_phi nf) (fun _ F => iter nf F) ref_Goes_keep 0 0 (codeOf Try.f26) (fin tab [((Ty.int IntKind.i64).sl, Md.own false (Md.bor false false)), ((Ty.int IntKind.i64).sl, Md.own false (Md.bor false false)), (Ty.bool, Md.bor false true)] (resL (none) Try.f26)) (fun _ _ => none) (fin tab [((Ty.int IntKind.i64).sl, Md.own false (Md.bor false false)), ((Ty.int IntKind.i64).sl, Md.own false (Md.bor false false)), (Ty.bool, Md.bor false true)] (resL (none) Try.f26)))
def ref_Goes_m0 (p : List (List (Int × Int × Int × Int × Int × Unit) × Int × Int × Int × Unit)) (most : Int) (v2 : List Int) (was : List Int) (at' : Int) : St := ⟨fresh, [(0, AV.v (((Ty.int IntKind.i64).pair ((Ty.int IntKind.i64).pair ((Ty.int IntKind.i64).pair ((Ty.int IntKind.i64).pair ((Ty.int IntKind.i64).pair Ty.unit))))).sl.pair ((Ty.int IntKind.i64).pair ((Ty.int IntKind.i64).pair ((Ty.int IntKind.i64).pair Ty.unit)))).sl (Md.bor true false) p), (1, AV.ow 500001 (Ty.int IntKind.i64).sl (Md.own false (Md.bor false false)) v2), (2, AV.v (Ty.int IntKind.i64) (Md.bor false true) most), (9, AV.ow 500009 (Ty.int IntKind.i64).sl (Md.own false (Md.bor false false)) was), (10, AV.v (Ty.int IntKind.i64) (Md.bor false true) at'), (20, AV.dead), (27, AV.dead)]⟩
theorem ref_Goes_h0 (nf : Nat)  (p : List (List (Int × Int × Int × Int × Int × Unit) × Int × Int × Int × Unit)) (most : Int) (fu : Nat) (v2 : List Int) (was : List Int) (at' : Int) : iter (fu + 1) (LC.F tab (ref_Goes_phi nf) (fun _ F => iter nf F) ref_Goes_keep 0 (ref_Goes_L0 nf )) (ref_Goes_m0 p most v2 was at') = ref_Goes_b0 nf  p most  (fun v2 was at' => iter fu (LC.F tab (ref_Goes_phi nf) (fun _ F => iter nf F) ref_Goes_keep 0 (ref_Goes_L0 nf )) (ref_Goes_m0 p most v2 was at')) v2 was at' := by kernel_rfl
theorem ref_Goes_e0 (nf : Nat)  (p : List (List (Int × Int × Int × Int × Int × Unit) × Int × Int × Int × Unit)) (most : Int) : ∀ (fu : Nat) (v2 : List Int) (was : List Int) (at' : Int), iter fu (LC.F tab (ref_Goes_phi nf) (fun _ F => iter nf F) ref_Goes_keep 0 (ref_Goes_L0 nf )) (ref_Goes_m0 p most v2 was at') = ref_Goes_l0 nf p most  fu v2 was at' := by
  intro fu
  induction fu with
  | zero => intros; rfl
  | succ fu ih =>
    intro v2 was at'
    rw [ref_Goes_h0 nf  p most fu v2 was at']
    simp only [ih]
    rfl
theorem ref_Goes_eq (nf : Nat) (p : List (List (Int × Int × Int × Int × Int × Unit) × Int × Int × Int × Unit)) (v : List Int) (most : Int) : runF tab (ref_Goes_phi nf) ref_Goes_keep nf [PT.val (((Ty.int IntKind.i64).pair ((Ty.int IntKind.i64).pair ((Ty.int IntKind.i64).pair ((Ty.int IntKind.i64).pair ((Ty.int IntKind.i64).pair Ty.unit))))).sl.pair ((Ty.int IntKind.i64).pair ((Ty.int IntKind.i64).pair ((Ty.int IntKind.i64).pair Ty.unit)))).sl (Md.bor true false), PT.val (Ty.int IntKind.i64).sl (Md.bor true false), PT.val (Ty.int IntKind.i64) (Md.bor true false)] [((Ty.int IntKind.i64).sl, Md.own false (Md.bor false false)), ((Ty.int IntKind.i64).sl, Md.own false (Md.bor false false)), (Ty.bool, Md.bor false true)] (resL (none) Try.f26) (codeOf Try.f26) ⟨p, v, most, ()⟩ = ref_Goes_f nf p v most := by
  have h : runF tab (ref_Goes_phi nf) ref_Goes_keep nf [PT.val (((Ty.int IntKind.i64).pair ((Ty.int IntKind.i64).pair ((Ty.int IntKind.i64).pair ((Ty.int IntKind.i64).pair ((Ty.int IntKind.i64).pair Ty.unit))))).sl.pair ((Ty.int IntKind.i64).pair ((Ty.int IntKind.i64).pair ((Ty.int IntKind.i64).pair Ty.unit)))).sl (Md.bor true false), PT.val (Ty.int IntKind.i64).sl (Md.bor true false), PT.val (Ty.int IntKind.i64) (Md.bor true false)] [((Ty.int IntKind.i64).sl, Md.own false (Md.bor false false)), ((Ty.int IntKind.i64).sl, Md.own false (Md.bor false false)), (Ty.bool, Md.bor false true)] (resL (none) Try.f26) (codeOf Try.f26) ⟨p, v, most, ()⟩ = ref_Goes_p nf (fun p0 p1 v0 v1 v2 => iter nf (LC.F tab (ref_Goes_phi nf) (fun _ F => iter nf F) ref_Goes_keep 0 (ref_Goes_L0 nf)) (ref_Goes_m0 p0 p1 v0 v1 v2)) p v most := by kernel_rfl
  rw [h]
  simp only [ref_Goes_e0]
  rfl
def ref_Goes_F (nf : Nat) (x : denPs [.val (.sl (.pair (.sl (.pair (.int .i64) (.pair (.int .i64) (.pair (.int .i64) (.pair (.int .i64) (.pair (.int .i64) (.unit))))))) (.pair (.int .i64) (.pair (.int .i64) (.pair (.int .i64) (.unit)))))) (.bor true false), .val (.sl (.int .i64)) (.bor true false), .val (.int .i64) (.bor true false)]) : Option (denL [(.sl (.int .i64), .own false (.bor false false)), (.sl (.int .i64), .own false (.bor false false)), (.bool, .bor false true)]) := ref_Goes_f nf x.1 x.2.1 x.2.2.1
def ref_Goes_C (nf : Nat) : Contract := ⟨[.val (.sl (.pair (.sl (.pair (.int .i64) (.pair (.int .i64) (.pair (.int .i64) (.pair (.int .i64) (.pair (.int .i64) (.unit))))))) (.pair (.int .i64) (.pair (.int .i64) (.pair (.int .i64) (.unit)))))) (.bor true false), .val (.sl (.int .i64)) (.bor true false), .val (.int .i64) (.bor true false)], [(.sl (.int .i64), .own false (.bor false false)), (.sl (.int .i64), .own false (.bor false false)), (.bool, .bor false true)], ref_Goes_F nf, none⟩
theorem ref_Goes_ok : FnOK Try.prog 26 := ⟨Try.f26, codeOf Try.f26, Try.func26, by kernel_rfl, by kernel_rfl⟩
theorem ref_Goes_holds (nf : Nat) : Contract.Holds Try.prog 26 (ref_Goes_C nf) :=
  fn_holds (Φ := ref_Goes_phi nf) (keep := ref_Goes_keep) (n := nf) ⟨tabs.1, tabs.2, (ctx_cons ref_Doing_ok (ref_Doing_holds nf) ctx_nil), mixed⟩ (fn := Try.f26) ⟨Try.func26, by kernel_rfl, by kernel_rfl, by kernel_rfl⟩ (fun x => ref_Goes_eq nf x.1 x.2.1 x.2.2.1)

/-! codemason codemasonlaw.BlockRuns -/
def law_BlockRuns_phi (nf : Nat) : Nat → Option Contract := lookC [(24, block_Run_C nf), (25, law_progCode_C nf), (26, ref_Goes_C nf), (27, ref_Ints_C nf)]
def law_BlockRuns_keep : Nat → List Nat := lookK []
def law_BlockRuns_p (nf : Nat)  (vars : Int) (p : List (List (Int × Int × Int × Int × Int × Unit) × Int × Int × Int × Unit)) (have' : List Int) : Option (Bool × Unit) :=
  Option.bind (block_Run_f nf vars p have') fun r =>
  Option.bind (law_progCode_f nf vars p have') fun r2 =>
  bif r2.fst == 0 then
    Option.bind (ref_Goes_f nf p have' 200) fun r3 =>
    bif !r3.snd.snd.fst then
      bif r.snd.snd.fst == 7 then
        Option.bind (ref_Ints_f nf r.fst r3.fst) fun r4 =>
        bif r4.fst then
          Option.bind (ref_Ints_f nf r.snd.fst r3.snd.fst) fun r5 =>
          some ((r5.fst, ()))
        else
          some ((false, ()))
      else
        some ((false, ()))
    else
      bif r.snd.snd.fst == r2.fst then
        Option.bind (ref_Ints_f nf r.fst r3.fst) fun r6 =>
        bif r6.fst then
          Option.bind (ref_Ints_f nf r.snd.fst r3.snd.fst) fun r7 =>
          some ((r7.fst, ()))
        else
          some ((false, ()))
      else
        some ((false, ()))
  else
    bif r.snd.snd.fst == r2.fst then
      Option.bind (ref_Ints_f nf r.fst ([])) fun r8 =>
      bif r8.fst then
        Option.bind (ref_Ints_f nf r.snd.fst ([])) fun r9 =>
        some ((r9.fst, ()))
      else
        some ((false, ()))
    else
      some ((false, ()))
def law_BlockRuns_f (nf : Nat) (vars : Int) (p : List (List (Int × Int × Int × Int × Int × Unit) × Int × Int × Int × Unit)) (have' : List Int) : Option (Bool × Unit) := law_BlockRuns_p nf  vars p have'
theorem law_BlockRuns_eq (nf : Nat) (vars : Int) (p : List (List (Int × Int × Int × Int × Int × Unit) × Int × Int × Int × Unit)) (have' : List Int) : runF tab (law_BlockRuns_phi nf) law_BlockRuns_keep nf [PT.val (Ty.int IntKind.i64) (Md.bor true false), PT.val (((Ty.int IntKind.i64).pair ((Ty.int IntKind.i64).pair ((Ty.int IntKind.i64).pair ((Ty.int IntKind.i64).pair ((Ty.int IntKind.i64).pair Ty.unit))))).sl.pair ((Ty.int IntKind.i64).pair ((Ty.int IntKind.i64).pair ((Ty.int IntKind.i64).pair Ty.unit)))).sl (Md.bor true false), PT.val (Ty.int IntKind.i64).sl (Md.bor true false)] [(Ty.bool, Md.bor false true)] (resL (none) Try.f5) (codeOf Try.f5) ⟨vars, p, have', ()⟩ = law_BlockRuns_f nf vars p have' := by
  have h : runF tab (law_BlockRuns_phi nf) law_BlockRuns_keep nf [PT.val (Ty.int IntKind.i64) (Md.bor true false), PT.val (((Ty.int IntKind.i64).pair ((Ty.int IntKind.i64).pair ((Ty.int IntKind.i64).pair ((Ty.int IntKind.i64).pair ((Ty.int IntKind.i64).pair Ty.unit))))).sl.pair ((Ty.int IntKind.i64).pair ((Ty.int IntKind.i64).pair ((Ty.int IntKind.i64).pair Ty.unit)))).sl (Md.bor true false), PT.val (Ty.int IntKind.i64).sl (Md.bor true false)] [(Ty.bool, Md.bor false true)] (resL (none) Try.f5) (codeOf Try.f5) ⟨vars, p, have', ()⟩ = law_BlockRuns_p nf  vars p have' := by kernel_rfl
  exact h
def law_BlockRuns_F (nf : Nat) (x : denPs [.val (.int .i64) (.bor true false), .val (.sl (.pair (.sl (.pair (.int .i64) (.pair (.int .i64) (.pair (.int .i64) (.pair (.int .i64) (.pair (.int .i64) (.unit))))))) (.pair (.int .i64) (.pair (.int .i64) (.pair (.int .i64) (.unit)))))) (.bor true false), .val (.sl (.int .i64)) (.bor true false)]) : Option (denL [(.bool, .bor false true)]) := law_BlockRuns_f nf x.1 x.2.1 x.2.2.1
def law_BlockRuns_C (nf : Nat) : Contract := ⟨[.val (.int .i64) (.bor true false), .val (.sl (.pair (.sl (.pair (.int .i64) (.pair (.int .i64) (.pair (.int .i64) (.pair (.int .i64) (.pair (.int .i64) (.unit))))))) (.pair (.int .i64) (.pair (.int .i64) (.pair (.int .i64) (.unit)))))) (.bor true false), .val (.sl (.int .i64)) (.bor true false)], [(.bool, .bor false true)], law_BlockRuns_F nf, none⟩
theorem law_BlockRuns_ok : FnOK Try.prog 5 := ⟨Try.f5, codeOf Try.f5, Try.func5, by kernel_rfl, by kernel_rfl⟩
theorem law_BlockRuns_holds (nf : Nat) : Contract.Holds Try.prog 5 (law_BlockRuns_C nf) :=
  fn_holds (Φ := law_BlockRuns_phi nf) (keep := law_BlockRuns_keep) (n := nf) ⟨tabs.1, tabs.2, (ctx_cons block_Run_ok (block_Run_holds nf) (ctx_cons law_progCode_ok (law_progCode_holds nf) (ctx_cons ref_Goes_ok (ref_Goes_holds nf) (ctx_cons ref_Ints_ok (ref_Ints_holds nf) ctx_nil)))), mixed⟩ (fn := Try.f5) ⟨Try.func5, by kernel_rfl, by kernel_rfl, by kernel_rfl⟩ (fun x => law_BlockRuns_eq nf x.1 x.2.1 x.2.2.1)
end Go.Proofs.Ytokjogplnoeicaa.S
