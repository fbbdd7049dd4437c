/- The functions of the code, as plain functions, and the theorems that say so: made by a program of this proof's own. -/
import Derived.Test.YtmndifhjmbiodaaAbCheck
import Derived.Test.YtmndifhjmbiodaaChecked
namespace Go.Proofs.Ytmndifhjmbiodaa.S
open Go Go.Ab
noncomputable section
def bkl : List (Nat × Bk) := []
def tab : Tab := ⟨lookT [(2, .int .i64), (3, .int .i64), (4, .bool), (5, .int .u8), (6, .int .u8), (7, .pair (.int .i64) (.pair (.int .i64) (.pair (.bool) (.pair (.int .u8) (.unit))))), (8, .pair (.int .i64) (.pair (.int .i64) (.pair (.bool) (.pair (.int .u8) (.unit))))), (12, .int .u64), (21, .int .i32), (22, .sl (.int .i64)), (23, .int .i64), (29, .sl (.pair (.sl (.int .u8)) (.pair (.sl (.pair (.int .i64) (.pair (.int .i64) (.unit)))) (.pair (.sl (.pair (.int .i64) (.pair (.int .i64) (.unit)))) (.unit))))), (34, .int .u32), (39, .sl (.int .u8)), (45, .sl (.pair (.int .i64) (.pair (.int .i64) (.unit)))), (50, .pair (.int .i64) (.pair (.int .i64) (.unit))), (51, .pair (.int .i64) (.pair (.int .i64) (.unit))), (56, .sl (.pair (.int .i64) (.pair (.int .i64) (.pair (.int .i64) (.unit))))), (57, .sl (.int .u32)), (66, .mp (.int .u32) (.int .i64)), (67, .int .u64), (75, .mp (.int .i64) (.int .i64)), (76, .pair (.sl (.int .i64)) (.pair (.mp (.int .i64) (.int .i64)) (.pair (.mp (.int .i64) (.int .i64)) (.unit)))), (77, .pair (.sl (.int .i64)) (.pair (.mp (.int .i64) (.int .i64)) (.pair (.mp (.int .i64) (.int .i64)) (.unit)))), (78, .sl (.pair (.int .i64) (.pair (.int .i64) (.unit)))), (79, .pair (.sl (.int .u8)) (.pair (.sl (.pair (.int .i64) (.pair (.int .i64) (.unit)))) (.pair (.sl (.pair (.int .i64) (.pair (.int .i64) (.unit)))) (.unit)))), (80, .pair (.sl (.int .u8)) (.pair (.sl (.pair (.int .i64) (.pair (.int .i64) (.unit)))) (.pair (.sl (.pair (.int .i64) (.pair (.int .i64) (.unit)))) (.unit)))), (81, .pair (.int .i64) (.pair (.int .i64) (.unit))), (82, .sl (.sl (.int .i64))), (89, .pair (.sl (.int .i64)) (.pair (.sl (.int .i64)) (.unit))), (90, .pair (.sl (.int .i64)) (.pair (.sl (.int .i64)) (.unit))), (92, .pair (.int .i64) (.pair (.int .i64) (.pair (.int .i64) (.unit)))), (93, .pair (.int .i64) (.pair (.int .i64) (.pair (.int .i64) (.unit)))), (94, .mp (.pair (.int .i64) (.pair (.int .i64) (.unit))) (.bool)), (98, .pair (.sl (.int .i64)) (.pair (.sl (.int .i64)) (.unit))), (99, .pair (.sl (.int .i64)) (.pair (.sl (.int .i64)) (.unit))), (106, .sl (.bool)), (114, .int .u64), (124, .int .u8), (125, .int .u8), (128, .int .i32), (129, .int .i32)], lookM [(2, .bor false true), (3, .bor false true), (4, .bor false true), (5, .bor false true), (6, .bor false true), (7, .bor false true), (8, .bor false true), (12, .bor false true), (21, .bor false true), (22, .own false (.bor false false)), (23, .bor false true), (29, .own false (.bor false false)), (34, .bor false true), (39, .own false (.bor false false)), (45, .own false (.bor false false)), (50, .bor false true), (51, .bor false true), (56, .own false (.bor false false)), (57, .own false (.bor false false)), (66, .own false (.bor false false)), (67, .bor false true), (75, .own false (.bor false false)), (76, .bor true false), (77, .pair (.own false (.bor false false)) (.pair (.own true (.bor false false)) (.pair (.own true (.bor false false)) (.bor false false)))), (78, .own false (.bor false false)), (79, .bor true false), (80, .bor true false), (81, .bor false true), (82, .own false (.bor false false)), (89, .bor true false), (90, .pair (.own false (.bor false false)) (.pair (.own false (.bor false false)) (.bor false false))), (92, .bor false true), (93, .bor false true), (94, .own false (.bor false false)), (98, .bor true false), (99, .pair (.own false (.bor false false)) (.pair (.own false (.bor false false)) (.bor false false))), (106, .own false (.bor false false)), (114, .bor false true), (124, .bor false true), (125, .bor false true), (128, .bor false true), (129, .bor false true)], hasT [81, 120], hasT [9, 10, 11], fun _ => none, lookB bkl⟩
theorem bkls : BkL Try.prog bkl := fun _ h => by cases h
theorem tabs : TabOK Try.prog tab ∧ EqOK Try.prog tab := tab_ok (by kernel_rfl) (by kernel_rfl)
theorem mixed : Try.prog.follows .mixedOrders = true := by kernel_rfl

/-! codemason codemasonref.Inside -/
def ref_Inside_phi (nf : Nat) : Nat → Option Contract := lookC []
def ref_Inside_keep : Nat → List Nat := lookK [(0, [0, 1, 7, 8, 9])]
def ref_Inside_b0 (nf : Nat) (n' : Int) (l' : List Int) (g0 : Int → Option (Bool × Unit)) (t9 : Int) : Option (Bool × Unit) :=
  bif decide (t9 < (↑l'.length : Int)) then
    bif inb t9 l'.length then
      bif decide (l'.getD t9.toNat 0 < 0) then
        some ((false, ()))
      else
        bif decide (l'.getD t9.toNat 0 ≥ n') then
          some ((false, ()))
        else
          g0 (IntKind.i64.wrap (t9 + 1))
    else
      none
  else
    some ((true, ()))
def ref_Inside_p (nf : Nat) (l0 : Int → List Int → Int → Option (Bool × Unit)) (n' : Int) (l' : List Int) : Option (Bool × Unit) :=
  l0 n' l' 0
def ref_Inside_l0 (nf : Nat) (n' : Int) (l' : List Int) : Nat → Int → Option (Bool × Unit)
  | 0, _ => none
  | fu + 1, t9 => ref_Inside_b0 nf  n' l'  (ref_Inside_l0 nf n' l'  fu) t9
def ref_Inside_f (nf : Nat) (n' : Int) (l' : List Int) : Option (Bool × Unit) := ref_Inside_p nf (fun p0 p1 v0 => ref_Inside_l0 nf p0 p1 nf v0) n' l'
noncomputable def ref_Inside_L0 (nf : Nat) : LC (Bool × Unit) := theL (findL tab (ref_Inside_phi nf) (fun _ F => iter nf F) ref_Inside_keep 0 0 (codeOf Try.f24) (fin tab [(Ty.bool, Md.bor false true)] (resL ([]) Try.f24)) (fun _ _ => none) (fin tab [(Ty.bool, Md.bor false true)] (resL ([]) Try.f24)))
def ref_Inside_m0 (n' : Int) (l' : List Int) (t9 : Int) : St := ⟨fresh, [(0, AV.v (Ty.int IntKind.i64) (Md.bor false true) n'), (1, AV.v (Ty.int IntKind.i64).sl (Md.bor true false) l'), (7, AV.v (Ty.int IntKind.i64).sl (Md.bor true false) l'), (8, AV.v (Ty.int IntKind.i64) (Md.bor false true) (↑l'.length : Int)), (9, AV.v (Ty.int IntKind.i64) (Md.bor false true) t9)]⟩
theorem ref_Inside_h0 (nf : Nat)  (n' : Int) (l' : List Int) (fu : Nat) (t9 : Int) : iter (fu + 1) (LC.F tab (ref_Inside_phi nf) (fun _ F => iter nf F) ref_Inside_keep 0 (ref_Inside_L0 nf )) (ref_Inside_m0 n' l' t9) = ref_Inside_b0 nf  n' l'  (fun t9 => iter fu (LC.F tab (ref_Inside_phi nf) (fun _ F => iter nf F) ref_Inside_keep 0 (ref_Inside_L0 nf )) (ref_Inside_m0 n' l' t9)) t9 := by kernel_rfl
theorem ref_Inside_e0 (nf : Nat)  (n' : Int) (l' : List Int) : ∀ (fu : Nat) (t9 : Int), iter fu (LC.F tab (ref_Inside_phi nf) (fun _ F => iter nf F) ref_Inside_keep 0 (ref_Inside_L0 nf )) (ref_Inside_m0 n' l' t9) = ref_Inside_l0 nf n' l'  fu t9 := by
  intro fu
  induction fu with
  | zero => intros; rfl
  | succ fu ih =>
    intro t9
    rw [ref_Inside_h0 nf  n' l' fu t9]
    simp only [ih]
    rfl
theorem ref_Inside_eq (nf : Nat) (n' : Int) (l' : List Int) : runF tab (ref_Inside_phi nf) ref_Inside_keep nf [PT.val (Ty.int IntKind.i64) (Md.bor true false), PT.val (Ty.int IntKind.i64).sl (Md.bor true false)] [(Ty.bool, Md.bor false true)] (resL ([]) Try.f24) (codeOf Try.f24) ⟨n', l', ()⟩ = ref_Inside_f nf n' l' := by
  have h : runF tab (ref_Inside_phi nf) ref_Inside_keep nf [PT.val (Ty.int IntKind.i64) (Md.bor true false), PT.val (Ty.int IntKind.i64).sl (Md.bor true false)] [(Ty.bool, Md.bor false true)] (resL ([]) Try.f24) (codeOf Try.f24) ⟨n', l', ()⟩ = ref_Inside_p nf (fun p0 p1 v0 => iter nf (LC.F tab (ref_Inside_phi nf) (fun _ F => iter nf F) ref_Inside_keep 0 (ref_Inside_L0 nf)) (ref_Inside_m0 p0 p1 v0)) n' l' := by kernel_rfl
  rw [h]
  simp only [ref_Inside_e0]
  rfl
def ref_Inside_F (nf : Nat) (x : denPs [.val (.int .i64) (.bor true false), .val (.sl (.int .i64)) (.bor true false)]) : Option (denL [(.bool, .bor false true)]) := ref_Inside_f nf x.1 x.2.1
def ref_Inside_C (nf : Nat) : Contract := ⟨[.val (.int .i64) (.bor true false), .val (.sl (.int .i64)) (.bor true false)], [(.bool, .bor false true)], ref_Inside_F nf, []⟩
theorem ref_Inside_ok : FnOK Try.prog 24 := ⟨Try.f24, codeOf Try.f24, Try.func24, by kernel_rfl, by kernel_rfl⟩
theorem ref_Inside_holds (nf : Nat) : Contract.Holds Try.prog 24 (ref_Inside_C nf) :=
  fn_holds (Φ := ref_Inside_phi nf) (keep := ref_Inside_keep) (n := nf) ⟨tabs.1, tabs.2, ctx_nil, mixed, bk_ok bkls rfl⟩ (fn := Try.f24) ⟨Try.func24, by kernel_rfl, by kernel_rfl, by kernel_rfl⟩ (fun x => ref_Inside_eq nf x.1 x.2.1)

/-! codemason codemasonref.PointCheck -/
def ref_PointCheck_phi (nf : Nat) : Nat → Option Contract := lookC [(24, ref_Inside_C nf)]
def ref_PointCheck_keep : Nat → List Nat := lookK [(0, [0, 1, 2, 25, 26, 27])]
def ref_PointCheck_b0 (nf : Nat) (vars : Int) (l' : List (Int × Int × Int × Unit)) (script : List Int) (g0 : Int → Option (Int × Unit)) (t27 : Int) : Option (Int × Unit) :=
  bif decide (t27 < (↑l'.length : Int)) then
    bif inb t27 l'.length then
      bif decide ((l'.getD t27.toNat (0, 0, 0, ())).fst < 1) then
        some ((6, ()))
      else
        bif decide ((l'.getD t27.toNat (0, 0, 0, ())).fst > 4) then
          some ((6, ()))
        else
          Option.bind (ref_Inside_f nf vars ([(l'.getD t27.toNat (0, 0, 0, ())).snd.fst, (l'.getD t27.toNat (0, 0, 0, ())).snd.snd.fst])) fun r =>
          bif !r.fst then
            some ((2, ()))
          else
            g0 (IntKind.i64.wrap (t27 + 1))
    else
      none
  else
    Option.bind (ref_Inside_f nf ((↑l'.length : Int)) script) fun r2 =>
    bif !r2.fst then
      some ((5, ()))
    else
      some ((0, ()))
def ref_PointCheck_p (nf : Nat) (l0 : Int → List (Int × Int × Int × Unit) → List Int → Int → Option (Int × Unit)) (vars : Int) (l' : List (Int × Int × Int × Unit)) (script : List Int) : Option (Int × Unit) :=
  bif decide (vars < 1) then
    some ((1, ()))
  else
    bif decide (vars > 8) then
      some ((1, ()))
    else
      bif decide ((↑l'.length : Int) > 12) then
        some ((1, ()))
      else
        bif decide ((↑script.length : Int) > 200) then
          some ((1, ()))
        else
          l0 vars l' script 0
def ref_PointCheck_l0 (nf : Nat) (vars : Int) (l' : List (Int × Int × Int × Unit)) (script : List Int) : Nat → Int → Option (Int × Unit)
  | 0, _ => none
  | fu + 1, t27 => ref_PointCheck_b0 nf  vars l' script  (ref_PointCheck_l0 nf vars l' script  fu) t27
def ref_PointCheck_f (nf : Nat) (vars : Int) (l' : List (Int × Int × Int × Unit)) (script : List Int) : Option (Int × Unit) := ref_PointCheck_p nf (fun p0 p1 p2 v0 => ref_PointCheck_l0 nf p0 p1 p2 nf v0) vars l' script
noncomputable def ref_PointCheck_L0 (nf : Nat) : LC (Int × Unit) := theL (findL tab (ref_PointCheck_phi nf) (fun _ F => iter nf F) ref_PointCheck_keep 0 0 (codeOf Try.f28) (fin tab [(Ty.int IntKind.i64, Md.bor false true)] (resL ([]) Try.f28)) (fun _ _ => none) (fin tab [(Ty.int IntKind.i64, Md.bor false true)] (resL ([]) Try.f28)))
def ref_PointCheck_m0 (vars : Int) (l' : List (Int × Int × Int × Unit)) (script : List Int) (t27 : Int) : St := ⟨fresh, [(0, AV.v (Ty.int IntKind.i64) (Md.bor false true) vars), (1, AV.v ((Ty.int IntKind.i64).pair ((Ty.int IntKind.i64).pair ((Ty.int IntKind.i64).pair Ty.unit))).sl (Md.bor true false) l'), (2, AV.v (Ty.int IntKind.i64).sl (Md.bor true false) script), (25, AV.v ((Ty.int IntKind.i64).pair ((Ty.int IntKind.i64).pair ((Ty.int IntKind.i64).pair Ty.unit))).sl (Md.bor true false) l'), (26, AV.v (Ty.int IntKind.i64) (Md.bor false true) (↑l'.length : Int)), (27, AV.v (Ty.int IntKind.i64) (Md.bor false true) t27)]⟩
theorem ref_PointCheck_h0 (nf : Nat)  (vars : Int) (l' : List (Int × Int × Int × Unit)) (script : List Int) (fu : Nat) (t27 : Int) : iter (fu + 1) (LC.F tab (ref_PointCheck_phi nf) (fun _ F => iter nf F) ref_PointCheck_keep 0 (ref_PointCheck_L0 nf )) (ref_PointCheck_m0 vars l' script t27) = ref_PointCheck_b0 nf  vars l' script  (fun t27 => iter fu (LC.F tab (ref_PointCheck_phi nf) (fun _ F => iter nf F) ref_PointCheck_keep 0 (ref_PointCheck_L0 nf )) (ref_PointCheck_m0 vars l' script t27)) t27 := by kernel_rfl
theorem ref_PointCheck_e0 (nf : Nat)  (vars : Int) (l' : List (Int × Int × Int × Unit)) (script : List Int) : ∀ (fu : Nat) (t27 : Int), iter fu (LC.F tab (ref_PointCheck_phi nf) (fun _ F => iter nf F) ref_PointCheck_keep 0 (ref_PointCheck_L0 nf )) (ref_PointCheck_m0 vars l' script t27) = ref_PointCheck_l0 nf vars l' script  fu t27 := by
  intro fu
  induction fu with
  | zero => intros; rfl
  | succ fu ih =>
    intro t27
    rw [ref_PointCheck_h0 nf  vars l' script fu t27]
    simp only [ih]
    rfl
theorem ref_PointCheck_eq (nf : Nat) (vars : Int) (l' : List (Int × Int × Int × Unit)) (script : List Int) : runF tab (ref_PointCheck_phi nf) ref_PointCheck_keep nf [PT.val (Ty.int IntKind.i64) (Md.bor true false), PT.val ((Ty.int IntKind.i64).pair ((Ty.int IntKind.i64).pair ((Ty.int IntKind.i64).pair Ty.unit))).sl (Md.bor true false), PT.val (Ty.int IntKind.i64).sl (Md.bor true false)] [(Ty.int IntKind.i64, Md.bor false true)] (resL ([]) Try.f28) (codeOf Try.f28) ⟨vars, l', script, ()⟩ = ref_PointCheck_f nf vars l' script := by
  have h : runF tab (ref_PointCheck_phi nf) ref_PointCheck_keep nf [PT.val (Ty.int IntKind.i64) (Md.bor true false), PT.val ((Ty.int IntKind.i64).pair ((Ty.int IntKind.i64).pair ((Ty.int IntKind.i64).pair Ty.unit))).sl (Md.bor true false), PT.val (Ty.int IntKind.i64).sl (Md.bor true false)] [(Ty.int IntKind.i64, Md.bor false true)] (resL ([]) Try.f28) (codeOf Try.f28) ⟨vars, l', script, ()⟩ = ref_PointCheck_p nf (fun p0 p1 p2 v0 => iter nf (LC.F tab (ref_PointCheck_phi nf) (fun _ F => iter nf F) ref_PointCheck_keep 0 (ref_PointCheck_L0 nf)) (ref_PointCheck_m0 p0 p1 p2 v0)) vars l' script := by kernel_rfl
  rw [h]
  simp only [ref_PointCheck_e0]
  rfl
def ref_PointCheck_F (nf : Nat) (x : denPs [.val (.int .i64) (.bor true false), .val (.sl (.pair (.int .i64) (.pair (.int .i64) (.pair (.int .i64) (.unit))))) (.bor true false), .val (.sl (.int .i64)) (.bor true false)]) : Option (denL [(.int .i64, .bor false true)]) := ref_PointCheck_f nf x.1 x.2.1 x.2.2.1
def ref_PointCheck_C (nf : Nat) : Contract := ⟨[.val (.int .i64) (.bor true false), .val (.sl (.pair (.int .i64) (.pair (.int .i64) (.pair (.int .i64) (.unit))))) (.bor true false), .val (.sl (.int .i64)) (.bor true false)], [(.int .i64, .bor false true)], ref_PointCheck_F nf, []⟩
theorem ref_PointCheck_ok : FnOK Try.prog 28 := ⟨Try.f28, codeOf Try.f28, Try.func28, by kernel_rfl, by kernel_rfl⟩
theorem ref_PointCheck_holds (nf : Nat) : Contract.Holds Try.prog 28 (ref_PointCheck_C nf) :=
  fn_holds (Φ := ref_PointCheck_phi nf) (keep := ref_PointCheck_keep) (n := nf) ⟨tabs.1, tabs.2, (ctx_cons ref_Inside_ok (ref_Inside_holds nf) ctx_nil), mixed, bk_ok bkls rfl⟩ (fn := Try.f28) ⟨Try.func28, by kernel_rfl, by kernel_rfl, by kernel_rfl⟩ (fun x => ref_PointCheck_eq nf x.1 x.2.1 x.2.2.1)

/-! codemason codemasonref.Words -/
def ref_Words_phi (nf : Nat) : Nat → Option Contract := lookC []
def ref_Words_keep : Nat → List Nat := lookK [(0, [0, 1, 5])]
def ref_Words_b0 (nf : Nat) (a : List Int) (b : List Int) (g0 : Int → Option (Bool × Unit)) (i : Int) : Option (Bool × Unit) :=
  bif decide (i < (↑a.length : Int)) then
    bif inb i a.length then
      bif inb i b.length then
        bif a.getD i.toNat 0 != b.getD i.toNat 0 then
          some ((false, ()))
        else
          g0 (IntKind.i64.wrap (i + 1))
      else
        none
    else
      none
  else
    some ((true, ()))
def ref_Words_p (nf : Nat) (l0 : List Int → List Int → Int → Option (Bool × Unit)) (a : List Int) (b : List Int) : Option (Bool × Unit) :=
  bif (↑a.length : Int) != (↑b.length : Int) then
    some ((false, ()))
  else
    l0 a b 0
def ref_Words_l0 (nf : Nat) (a : List Int) (b : List Int) : Nat → Int → Option (Bool × Unit)
  | 0, _ => none
  | fu + 1, i => ref_Words_b0 nf  a b  (ref_Words_l0 nf a b  fu) i
def ref_Words_f (nf : Nat) (a : List Int) (b : List Int) : Option (Bool × Unit) := ref_Words_p nf (fun p0 p1 v0 => ref_Words_l0 nf p0 p1 nf v0) a b
noncomputable def ref_Words_L0 (nf : Nat) : LC (Bool × Unit) := theL (findL tab (ref_Words_phi nf) (fun _ F => iter nf F) ref_Words_keep 0 0 (codeOf Try.f29) (fin tab [(Ty.bool, Md.bor false true)] (resL ([]) Try.f29)) (fun _ _ => none) (fin tab [(Ty.bool, Md.bor false true)] (resL ([]) Try.f29)))
def ref_Words_m0 (a : List Int) (b : List Int) (i : Int) : St := ⟨fresh, [(0, AV.v (Ty.int IntKind.u32).sl (Md.bor true false) a), (1, AV.v (Ty.int IntKind.u32).sl (Md.bor true false) b), (5, AV.v (Ty.int IntKind.i64) (Md.bor false true) i)]⟩
theorem ref_Words_h0 (nf : Nat)  (a : List Int) (b : List Int) (fu : Nat) (i : Int) : iter (fu + 1) (LC.F tab (ref_Words_phi nf) (fun _ F => iter nf F) ref_Words_keep 0 (ref_Words_L0 nf )) (ref_Words_m0 a b i) = ref_Words_b0 nf  a b  (fun i => iter fu (LC.F tab (ref_Words_phi nf) (fun _ F => iter nf F) ref_Words_keep 0 (ref_Words_L0 nf )) (ref_Words_m0 a b i)) i := by kernel_rfl
theorem ref_Words_e0 (nf : Nat)  (a : List Int) (b : List Int) : ∀ (fu : Nat) (i : Int), iter fu (LC.F tab (ref_Words_phi nf) (fun _ F => iter nf F) ref_Words_keep 0 (ref_Words_L0 nf )) (ref_Words_m0 a b i) = ref_Words_l0 nf a b  fu i := by
  intro fu
  induction fu with
  | zero => intros; rfl
  | succ fu ih =>
    intro i
    rw [ref_Words_h0 nf  a b fu i]
    simp only [ih]
    rfl
theorem ref_Words_eq (nf : Nat) (a : List Int) (b : List Int) : runF tab (ref_Words_phi nf) ref_Words_keep nf [PT.val (Ty.int IntKind.u32).sl (Md.bor true false), PT.val (Ty.int IntKind.u32).sl (Md.bor true false)] [(Ty.bool, Md.bor false true)] (resL ([]) Try.f29) (codeOf Try.f29) ⟨a, b, ()⟩ = ref_Words_f nf a b := by
  have h : runF tab (ref_Words_phi nf) ref_Words_keep nf [PT.val (Ty.int IntKind.u32).sl (Md.bor true false), PT.val (Ty.int IntKind.u32).sl (Md.bor true false)] [(Ty.bool, Md.bor false true)] (resL ([]) Try.f29) (codeOf Try.f29) ⟨a, b, ()⟩ = ref_Words_p nf (fun p0 p1 v0 => iter nf (LC.F tab (ref_Words_phi nf) (fun _ F => iter nf F) ref_Words_keep 0 (ref_Words_L0 nf)) (ref_Words_m0 p0 p1 v0)) a b := by kernel_rfl
  rw [h]
  simp only [ref_Words_e0]
  rfl
def ref_Words_F (nf : Nat) (x : denPs [.val (.sl (.int .u32)) (.bor true false), .val (.sl (.int .u32)) (.bor true false)]) : Option (denL [(.bool, .bor false true)]) := ref_Words_f nf x.1 x.2.1
def ref_Words_C (nf : Nat) : Contract := ⟨[.val (.sl (.int .u32)) (.bor true false), .val (.sl (.int .u32)) (.bor true false)], [(.bool, .bor false true)], ref_Words_F nf, []⟩
theorem ref_Words_ok : FnOK Try.prog 29 := ⟨Try.f29, codeOf Try.f29, Try.func29, by kernel_rfl, by kernel_rfl⟩
theorem ref_Words_holds (nf : Nat) : Contract.Holds Try.prog 29 (ref_Words_C nf) :=
  fn_holds (Φ := ref_Words_phi nf) (keep := ref_Words_keep) (n := nf) ⟨tabs.1, tabs.2, ctx_nil, mixed, bk_ok bkls rfl⟩ (fn := Try.f29) ⟨Try.func29, by kernel_rfl, by kernel_rfl, by kernel_rfl⟩ (fun x => ref_Words_eq nf x.1 x.2.1)

/-! codemason point.wrong 1 -/
def point_wrong_1_phi (nf : Nat) : Nat → Option Contract := lookC []
def point_wrong_1_keep : Nat → List Nat := lookK []
def point_wrong_1_p (nf : Nat)  (k' : Int) (c1 : List (Int × Int × Int × Unit)) : Option (Bool × Unit) :=
  bif decide (k' < 0) then
    some ((true, ()))
  else
    some ((decide (k' ≥ (↑c1.length : Int)), ()))
def point_wrong_1_f (nf : Nat) (k' : Int) (c1 : List (Int × Int × Int × Unit)) : Option (Bool × Unit) := point_wrong_1_p nf  k' c1
theorem point_wrong_1_eq (nf : Nat) (k' : Int) (c1 : List (Int × Int × Int × Unit)) : runF tab (point_wrong_1_phi nf) point_wrong_1_keep nf [PT.val (Ty.int IntKind.i64) (Md.bor true false), PT.ptr ((Ty.int IntKind.i64).pair ((Ty.int IntKind.i64).pair ((Ty.int IntKind.i64).pair Ty.unit))).sl (Md.bor true false)] [(Ty.bool, Md.bor false true)] (resL ([]) Try.f58) (codeOf Try.f58) ⟨k', c1, ()⟩ = point_wrong_1_f nf k' c1 := by
  have h : runF tab (point_wrong_1_phi nf) point_wrong_1_keep nf [PT.val (Ty.int IntKind.i64) (Md.bor true false), PT.ptr ((Ty.int IntKind.i64).pair ((Ty.int IntKind.i64).pair ((Ty.int IntKind.i64).pair Ty.unit))).sl (Md.bor true false)] [(Ty.bool, Md.bor false true)] (resL ([]) Try.f58) (codeOf Try.f58) ⟨k', c1, ()⟩ = point_wrong_1_p nf  k' c1 := by kernel_rfl
  exact h
def point_wrong_1_F (nf : Nat) (x : denPs [.val (.int .i64) (.bor true false), .ptr (.sl (.pair (.int .i64) (.pair (.int .i64) (.pair (.int .i64) (.unit))))) (.bor true false)]) : Option (denL [(.bool, .bor false true)]) := point_wrong_1_f nf x.1 x.2.1
def point_wrong_1_C (nf : Nat) : Contract := ⟨[.val (.int .i64) (.bor true false), .ptr (.sl (.pair (.int .i64) (.pair (.int .i64) (.pair (.int .i64) (.unit))))) (.bor true false)], [(.bool, .bor false true)], point_wrong_1_F nf, []⟩
theorem point_wrong_1_ok : FnOK Try.prog 58 := ⟨Try.f58, codeOf Try.f58, Try.func58, by kernel_rfl, by kernel_rfl⟩
theorem point_wrong_1_holds (nf : Nat) : Contract.Holds Try.prog 58 (point_wrong_1_C nf) :=
  fn_holds (Φ := point_wrong_1_phi nf) (keep := point_wrong_1_keep) (n := nf) ⟨tabs.1, tabs.2, ctx_nil, mixed, bk_ok bkls rfl⟩ (fn := Try.f58) ⟨Try.func58, by kernel_rfl, by kernel_rfl, by kernel_rfl⟩ (fun x => point_wrong_1_eq nf x.1 x.2.1)

/-! slices.IndexFunc   int int  codemason point.wrong 1 -/
def slices_IndexFunc__point_wrong_1_phi (nf : Nat) : Nat → Option Contract := lookC [(58, point_wrong_1_C nf)]
def slices_IndexFunc__point_wrong_1_keep : Nat → List Nat := lookK [(0, [0, 1, 7, 8])]
def slices_IndexFunc__point_wrong_1_b0 (nf : Nat) (s : List Int) (f : List (Int × Int × Int × Unit) × Unit) (g0 : Int → Option (Int × Unit)) (t8 : Int) : Option (Int × Unit) :=
  bif decide (t8 < (↑s.length : Int)) then
    bif inb t8 s.length then
      Option.bind (point_wrong_1_f nf (s.getD t8.toNat 0) f.fst) fun r =>
      bif r.fst then
        some ((t8, ()))
      else
        g0 (IntKind.i64.wrap (t8 + 1))
    else
      none
  else
    some ((-1, ()))
def slices_IndexFunc__point_wrong_1_p (nf : Nat) (l0 : List Int → List (Int × Int × Int × Unit) × Unit → Int → Option (Int × Unit)) (s : List Int) (f : List (Int × Int × Int × Unit) × Unit) : Option (Int × Unit) :=
  l0 s f 0
def slices_IndexFunc__point_wrong_1_l0 (nf : Nat) (s : List Int) (f : List (Int × Int × Int × Unit) × Unit) : Nat → Int → Option (Int × Unit)
  | 0, _ => none
  | fu + 1, t8 => slices_IndexFunc__point_wrong_1_b0 nf  s f  (slices_IndexFunc__point_wrong_1_l0 nf s f  fu) t8
def slices_IndexFunc__point_wrong_1_f (nf : Nat) (s : List Int) (f : List (Int × Int × Int × Unit) × Unit) : Option (Int × Unit) := slices_IndexFunc__point_wrong_1_p nf (fun p0 p1 v0 => slices_IndexFunc__point_wrong_1_l0 nf p0 p1 nf v0) s f
noncomputable def slices_IndexFunc__point_wrong_1_L0 (nf : Nat) : LC (Int × Unit) := theL (findL tab (slices_IndexFunc__point_wrong_1_phi nf) (fun _ F => iter nf F) slices_IndexFunc__point_wrong_1_keep 0 0 (codeOf Try.f62) (fin tab [(Ty.int IntKind.i64, Md.bor false true)] (resL ([]) Try.f62)) (fun _ _ => none) (fin tab [(Ty.int IntKind.i64, Md.bor false true)] (resL ([]) Try.f62)))
def slices_IndexFunc__point_wrong_1_m0 (s : List Int) (f : List (Int × Int × Int × Unit) × Unit) (t8 : Int) : St := ⟨fresh, [(0, AV.v (Ty.int IntKind.i64).sl (Md.bor true false) s), (1, AV.clo 58 [AV.rop ((Ty.int IntKind.i64).pair ((Ty.int IntKind.i64).pair ((Ty.int IntKind.i64).pair Ty.unit))).sl (Md.bor true false) f.fst]), (7, AV.v (Ty.int IntKind.i64) (Md.bor false true) (↑s.length : Int)), (8, AV.v (Ty.int IntKind.i64) (Md.bor false true) t8)]⟩
theorem slices_IndexFunc__point_wrong_1_h0 (nf : Nat)  (s : List Int) (f : List (Int × Int × Int × Unit) × Unit) (fu : Nat) (t8 : Int) : iter (fu + 1) (LC.F tab (slices_IndexFunc__point_wrong_1_phi nf) (fun _ F => iter nf F) slices_IndexFunc__point_wrong_1_keep 0 (slices_IndexFunc__point_wrong_1_L0 nf )) (slices_IndexFunc__point_wrong_1_m0 s f t8) = slices_IndexFunc__point_wrong_1_b0 nf  s f  (fun t8 => iter fu (LC.F tab (slices_IndexFunc__point_wrong_1_phi nf) (fun _ F => iter nf F) slices_IndexFunc__point_wrong_1_keep 0 (slices_IndexFunc__point_wrong_1_L0 nf )) (slices_IndexFunc__point_wrong_1_m0 s f t8)) t8 := by kernel_rfl
theorem slices_IndexFunc__point_wrong_1_e0 (nf : Nat)  (s : List Int) (f : List (Int × Int × Int × Unit) × Unit) : ∀ (fu : Nat) (t8 : Int), iter fu (LC.F tab (slices_IndexFunc__point_wrong_1_phi nf) (fun _ F => iter nf F) slices_IndexFunc__point_wrong_1_keep 0 (slices_IndexFunc__point_wrong_1_L0 nf )) (slices_IndexFunc__point_wrong_1_m0 s f t8) = slices_IndexFunc__point_wrong_1_l0 nf s f  fu t8 := by
  intro fu
  induction fu with
  | zero => intros; rfl
  | succ fu ih =>
    intro t8
    rw [slices_IndexFunc__point_wrong_1_h0 nf  s f fu t8]
    simp only [ih]
    rfl
theorem slices_IndexFunc__point_wrong_1_eq (nf : Nat) (s : List Int) (f : List (Int × Int × Int × Unit) × Unit) : runF tab (slices_IndexFunc__point_wrong_1_phi nf) slices_IndexFunc__point_wrong_1_keep nf [PT.val (Ty.int IntKind.i64).sl (Md.bor true false), PT.clo 58 [(((Ty.int IntKind.i64).pair ((Ty.int IntKind.i64).pair ((Ty.int IntKind.i64).pair Ty.unit))).sl, Md.bor true false)]] [(Ty.int IntKind.i64, Md.bor false true)] (resL ([]) Try.f62) (codeOf Try.f62) ⟨s, f, ()⟩ = slices_IndexFunc__point_wrong_1_f nf s f := by
  have h : runF tab (slices_IndexFunc__point_wrong_1_phi nf) slices_IndexFunc__point_wrong_1_keep nf [PT.val (Ty.int IntKind.i64).sl (Md.bor true false), PT.clo 58 [(((Ty.int IntKind.i64).pair ((Ty.int IntKind.i64).pair ((Ty.int IntKind.i64).pair Ty.unit))).sl, Md.bor true false)]] [(Ty.int IntKind.i64, Md.bor false true)] (resL ([]) Try.f62) (codeOf Try.f62) ⟨s, f, ()⟩ = slices_IndexFunc__point_wrong_1_p nf (fun p0 p1 v0 => iter nf (LC.F tab (slices_IndexFunc__point_wrong_1_phi nf) (fun _ F => iter nf F) slices_IndexFunc__point_wrong_1_keep 0 (slices_IndexFunc__point_wrong_1_L0 nf)) (slices_IndexFunc__point_wrong_1_m0 p0 p1 v0)) s f := by kernel_rfl
  rw [h]
  simp only [slices_IndexFunc__point_wrong_1_e0]
  rfl
def slices_IndexFunc__point_wrong_1_F (nf : Nat) (x : denPs [.val (.sl (.int .i64)) (.bor true false), .clo 58 [(.sl (.pair (.int .i64) (.pair (.int .i64) (.pair (.int .i64) (.unit)))), .bor true false)]]) : Option (denL [(.int .i64, .bor false true)]) := slices_IndexFunc__point_wrong_1_f nf x.1 x.2.1
def slices_IndexFunc__point_wrong_1_C (nf : Nat) : Contract := ⟨[.val (.sl (.int .i64)) (.bor true false), .clo 58 [(.sl (.pair (.int .i64) (.pair (.int .i64) (.pair (.int .i64) (.unit)))), .bor true false)]], [(.int .i64, .bor false true)], slices_IndexFunc__point_wrong_1_F nf, []⟩
theorem slices_IndexFunc__point_wrong_1_ok : FnOK Try.prog 62 := ⟨Try.f62, codeOf Try.f62, Try.func62, by kernel_rfl, by kernel_rfl⟩
theorem slices_IndexFunc__point_wrong_1_holds (nf : Nat) : Contract.Holds Try.prog 62 (slices_IndexFunc__point_wrong_1_C nf) :=
  fn_holds (Φ := slices_IndexFunc__point_wrong_1_phi nf) (keep := slices_IndexFunc__point_wrong_1_keep) (n := nf) ⟨tabs.1, tabs.2, (ctx_cons point_wrong_1_ok (point_wrong_1_holds nf) ctx_nil), mixed, bk_ok bkls rfl⟩ (fn := Try.f62) ⟨Try.func62, by kernel_rfl, by kernel_rfl, by kernel_rfl⟩ (fun x => slices_IndexFunc__point_wrong_1_eq nf x.1 x.2.1)

/-! slices.ContainsFunc   int int  codemason point.wrong 1 -/
def slices_ContainsFunc__point_wrong_1_phi (nf : Nat) : Nat → Option Contract := lookC [(62, slices_IndexFunc__point_wrong_1_C nf)]
def slices_ContainsFunc__point_wrong_1_keep : Nat → List Nat := lookK []
def slices_ContainsFunc__point_wrong_1_p (nf : Nat)  (s : List Int) (f : List (Int × Int × Int × Unit) × Unit) : Option (Bool × Unit) :=
  Option.bind (slices_IndexFunc__point_wrong_1_f nf s ((f.fst, ()))) fun r =>
  some ((decide (r.fst ≥ 0), ()))
def slices_ContainsFunc__point_wrong_1_f (nf : Nat) (s : List Int) (f : List (Int × Int × Int × Unit) × Unit) : Option (Bool × Unit) := slices_ContainsFunc__point_wrong_1_p nf  s f
theorem slices_ContainsFunc__point_wrong_1_eq (nf : Nat) (s : List Int) (f : List (Int × Int × Int × Unit) × Unit) : runF tab (slices_ContainsFunc__point_wrong_1_phi nf) slices_ContainsFunc__point_wrong_1_keep nf [PT.val (Ty.int IntKind.i64).sl (Md.bor true false), PT.clo 58 [(((Ty.int IntKind.i64).pair ((Ty.int IntKind.i64).pair ((Ty.int IntKind.i64).pair Ty.unit))).sl, Md.bor true false)]] [(Ty.bool, Md.bor false true)] (resL ([]) Try.f57) (codeOf Try.f57) ⟨s, f, ()⟩ = slices_ContainsFunc__point_wrong_1_f nf s f := by
  have h : runF tab (slices_ContainsFunc__point_wrong_1_phi nf) slices_ContainsFunc__point_wrong_1_keep nf [PT.val (Ty.int IntKind.i64).sl (Md.bor true false), PT.clo 58 [(((Ty.int IntKind.i64).pair ((Ty.int IntKind.i64).pair ((Ty.int IntKind.i64).pair Ty.unit))).sl, Md.bor true false)]] [(Ty.bool, Md.bor false true)] (resL ([]) Try.f57) (codeOf Try.f57) ⟨s, f, ()⟩ = slices_ContainsFunc__point_wrong_1_p nf  s f := by kernel_rfl
  exact h
def slices_ContainsFunc__point_wrong_1_F (nf : Nat) (x : denPs [.val (.sl (.int .i64)) (.bor true false), .clo 58 [(.sl (.pair (.int .i64) (.pair (.int .i64) (.pair (.int .i64) (.unit)))), .bor true false)]]) : Option (denL [(.bool, .bor false true)]) := slices_ContainsFunc__point_wrong_1_f nf x.1 x.2.1
def slices_ContainsFunc__point_wrong_1_C (nf : Nat) : Contract := ⟨[.val (.sl (.int .i64)) (.bor true false), .clo 58 [(.sl (.pair (.int .i64) (.pair (.int .i64) (.pair (.int .i64) (.unit)))), .bor true false)]], [(.bool, .bor false true)], slices_ContainsFunc__point_wrong_1_F nf, []⟩
theorem slices_ContainsFunc__point_wrong_1_ok : FnOK Try.prog 57 := ⟨Try.f57, codeOf Try.f57, Try.func57, by kernel_rfl, by kernel_rfl⟩
theorem slices_ContainsFunc__point_wrong_1_holds (nf : Nat) : Contract.Holds Try.prog 57 (slices_ContainsFunc__point_wrong_1_C nf) :=
  fn_holds (Φ := slices_ContainsFunc__point_wrong_1_phi nf) (keep := slices_ContainsFunc__point_wrong_1_keep) (n := nf) ⟨tabs.1, tabs.2, (ctx_cons slices_IndexFunc__point_wrong_1_ok (slices_IndexFunc__point_wrong_1_holds nf) ctx_nil), mixed, bk_ok bkls rfl⟩ (fn := Try.f57) ⟨Try.func57, by kernel_rfl, by kernel_rfl, by kernel_rfl⟩ (fun x => slices_ContainsFunc__point_wrong_1_eq nf x.1 x.2.1)

/-! codemason point.wrong -/
def point_wrong_phi (nf : Nat) : Nat → Option Contract := lookC [(57, slices_ContainsFunc__point_wrong_1_C nf)]
def point_wrong_keep : Nat → List Nat := lookK [(0, [0, 1, 2, 4, 25, 26, 27])]
def point_wrong_b0 (nf : Nat) (vars : Int) (l' : List (Int × Int × Int × Unit)) (script : List Int) (g0 : List (Int × Int × Int × Unit) → Int → Option (Int × Unit)) (l'2 : List (Int × Int × Int × Unit)) (t27 : Int) : Option (Int × Unit) :=
  bif decide (t27 < (↑l'.length : Int)) then
    bif inb t27 l'.length then
      bif decide ((l'.getD t27.toNat (0, 0, 0, ())).fst < 1) then
        some ((6, ()))
      else
        bif decide ((l'.getD t27.toNat (0, 0, 0, ())).fst > 4) then
          some ((6, ()))
        else
          bif decide ((if (l'.getD t27.toNat (0, 0, 0, ())).snd.snd.fst < (l'.getD t27.toNat (0, 0, 0, ())).snd.fst then (l'.getD t27.toNat (0, 0, 0, ())).snd.snd.fst else (l'.getD t27.toNat (0, 0, 0, ())).snd.fst) < 0) then
            some ((2, ()))
          else
            bif decide ((if (l'.getD t27.toNat (0, 0, 0, ())).snd.snd.fst > (l'.getD t27.toNat (0, 0, 0, ())).snd.fst then (l'.getD t27.toNat (0, 0, 0, ())).snd.snd.fst else (l'.getD t27.toNat (0, 0, 0, ())).snd.fst) ≥ vars) then
              some ((2, ()))
            else
              g0 l'2 (IntKind.i64.wrap (t27 + 1))
    else
      none
  else
    Option.bind (slices_ContainsFunc__point_wrong_1_f nf script ((l'2, ()))) fun r =>
    bif r.fst then
      some ((5, ()))
    else
      some ((0, ()))
def point_wrong_p (nf : Nat) (l0 : Int → List (Int × Int × Int × Unit) → List Int → List (Int × Int × Int × Unit) → Int → Option (Int × Unit)) (vars : Int) (l' : List (Int × Int × Int × Unit)) (script : List Int) : Option (Int × Unit) :=
  bif decide (vars < 1) then
    some ((1, ()))
  else
    bif decide (vars > 8) then
      some ((1, ()))
    else
      bif decide ((↑l'.length : Int) > 12) then
        some ((1, ()))
      else
        bif decide ((↑script.length : Int) > 200) then
          some ((1, ()))
        else
          l0 vars l' script l' 0
def point_wrong_l0 (nf : Nat) (vars : Int) (l' : List (Int × Int × Int × Unit)) (script : List Int) : Nat → List (Int × Int × Int × Unit) → Int → Option (Int × Unit)
  | 0, _, _ => none
  | fu + 1, l'2, t27 => point_wrong_b0 nf  vars l' script  (point_wrong_l0 nf vars l' script  fu) l'2 t27
def point_wrong_f (nf : Nat) (vars : Int) (l' : List (Int × Int × Int × Unit)) (script : List Int) : Option (Int × Unit) := point_wrong_p nf (fun p0 p1 p2 v0 v1 => point_wrong_l0 nf p0 p1 p2 nf v0 v1) vars l' script
noncomputable def point_wrong_L0 (nf : Nat) : LC (Int × Unit) := theL (findL tab (point_wrong_phi nf) (fun _ F => iter nf F) point_wrong_keep 0 0 (codeOf Try.f46) (fin tab [(Ty.int IntKind.i64, Md.bor false true)] (resL ([]) Try.f46)) (fun _ _ => none) (fin tab [(Ty.int IntKind.i64, Md.bor false true)] (resL ([]) Try.f46)))
def point_wrong_m0 (vars : Int) (l' : List (Int × Int × Int × Unit)) (script : List Int) (l'2 : List (Int × Int × Int × Unit)) (t27 : Int) : St := ⟨fresh, [(0, AV.v (Ty.int IntKind.i64) (Md.bor false true) vars), (1, AV.v ((Ty.int IntKind.i64).pair ((Ty.int IntKind.i64).pair ((Ty.int IntKind.i64).pair Ty.unit))).sl (Md.bor true false) l'), (2, AV.v (Ty.int IntKind.i64).sl (Md.bor true false) script), (4, AV.box 4 500004 ((Ty.int IntKind.i64).pair ((Ty.int IntKind.i64).pair ((Ty.int IntKind.i64).pair Ty.unit))).sl (Md.bor true false) l'2), (25, AV.v ((Ty.int IntKind.i64).pair ((Ty.int IntKind.i64).pair ((Ty.int IntKind.i64).pair Ty.unit))).sl (Md.bor true false) l'), (26, AV.v (Ty.int IntKind.i64) (Md.bor false true) (↑l'.length : Int)), (27, AV.v (Ty.int IntKind.i64) (Md.bor false true) t27)]⟩
theorem point_wrong_h0 (nf : Nat)  (vars : Int) (l' : List (Int × Int × Int × Unit)) (script : List Int) (fu : Nat) (l'2 : List (Int × Int × Int × Unit)) (t27 : Int) : iter (fu + 1) (LC.F tab (point_wrong_phi nf) (fun _ F => iter nf F) point_wrong_keep 0 (point_wrong_L0 nf )) (point_wrong_m0 vars l' script l'2 t27) = point_wrong_b0 nf  vars l' script  (fun l'2 t27 => iter fu (LC.F tab (point_wrong_phi nf) (fun _ F => iter nf F) point_wrong_keep 0 (point_wrong_L0 nf )) (point_wrong_m0 vars l' script l'2 t27)) l'2 t27 := by kernel_rfl
theorem point_wrong_e0 (nf : Nat)  (vars : Int) (l' : List (Int × Int × Int × Unit)) (script : List Int) : ∀ (fu : Nat) (l'2 : List (Int × Int × Int × Unit)) (t27 : Int), iter fu (LC.F tab (point_wrong_phi nf) (fun _ F => iter nf F) point_wrong_keep 0 (point_wrong_L0 nf )) (point_wrong_m0 vars l' script l'2 t27) = point_wrong_l0 nf vars l' script  fu l'2 t27 := by
  intro fu
  induction fu with
  | zero => intros; rfl
  | succ fu ih =>
    intro l'2 t27
    rw [point_wrong_h0 nf  vars l' script fu l'2 t27]
    simp only [ih]
    rfl
theorem point_wrong_eq (nf : Nat) (vars : Int) (l' : List (Int × Int × Int × Unit)) (script : List Int) : runF tab (point_wrong_phi nf) point_wrong_keep nf [PT.val (Ty.int IntKind.i64) (Md.bor true false), PT.val ((Ty.int IntKind.i64).pair ((Ty.int IntKind.i64).pair ((Ty.int IntKind.i64).pair Ty.unit))).sl (Md.bor true false), PT.val (Ty.int IntKind.i64).sl (Md.bor true false)] [(Ty.int IntKind.i64, Md.bor false true)] (resL ([]) Try.f46) (codeOf Try.f46) ⟨vars, l', script, ()⟩ = point_wrong_f nf vars l' script := by
  have h : runF tab (point_wrong_phi nf) point_wrong_keep nf [PT.val (Ty.int IntKind.i64) (Md.bor true false), PT.val ((Ty.int IntKind.i64).pair ((Ty.int IntKind.i64).pair ((Ty.int IntKind.i64).pair Ty.unit))).sl (Md.bor true false), PT.val (Ty.int IntKind.i64).sl (Md.bor true false)] [(Ty.int IntKind.i64, Md.bor false true)] (resL ([]) Try.f46) (codeOf Try.f46) ⟨vars, l', script, ()⟩ = point_wrong_p nf (fun p0 p1 p2 v0 v1 => iter nf (LC.F tab (point_wrong_phi nf) (fun _ F => iter nf F) point_wrong_keep 0 (point_wrong_L0 nf)) (point_wrong_m0 p0 p1 p2 v0 v1)) vars l' script := by kernel_rfl
  rw [h]
  simp only [point_wrong_e0]
  rfl
def point_wrong_F (nf : Nat) (x : denPs [.val (.int .i64) (.bor true false), .val (.sl (.pair (.int .i64) (.pair (.int .i64) (.pair (.int .i64) (.unit))))) (.bor true false), .val (.sl (.int .i64)) (.bor true false)]) : Option (denL [(.int .i64, .bor false true)]) := point_wrong_f nf x.1 x.2.1 x.2.2.1
def point_wrong_C (nf : Nat) : Contract := ⟨[.val (.int .i64) (.bor true false), .val (.sl (.pair (.int .i64) (.pair (.int .i64) (.pair (.int .i64) (.unit))))) (.bor true false), .val (.sl (.int .i64)) (.bor true false)], [(.int .i64, .bor false true)], point_wrong_F nf, []⟩
theorem point_wrong_ok : FnOK Try.prog 46 := ⟨Try.f46, codeOf Try.f46, Try.func46, by kernel_rfl, by kernel_rfl⟩
theorem point_wrong_holds (nf : Nat) : Contract.Holds Try.prog 46 (point_wrong_C nf) :=
  fn_holds (Φ := point_wrong_phi nf) (keep := point_wrong_keep) (n := nf) ⟨tabs.1, tabs.2, (ctx_cons slices_ContainsFunc__point_wrong_1_ok (slices_ContainsFunc__point_wrong_1_holds nf) ctx_nil), mixed, bk_ok bkls rfl⟩ (fn := Try.f46) ⟨Try.func46, by kernel_rfl, by kernel_rfl, by kernel_rfl⟩ (fun x => point_wrong_eq nf x.1 x.2.1 x.2.2.1)

/-! math bits.Mul32 -/
def bits_Mul32_phi (nf : Nat) : Nat → Option Contract := lookC []
def bits_Mul32_keep : Nat → List Nat := lookK []
def bits_Mul32_p (nf : Nat)  (x : Int) (y : Int) : Option (Int × Int × Unit) :=
  some ((IntKind.u32.wrap (shrI IntKind.u64 (IntKind.u64.wrap (IntKind.u64.wrap x * IntKind.u64.wrap y)) 32), IntKind.u32.wrap (IntKind.u64.wrap (IntKind.u64.wrap x * IntKind.u64.wrap y)), ()))
def bits_Mul32_f (nf : Nat) (x : Int) (y : Int) : Option (Int × Int × Unit) := bits_Mul32_p nf  x y
theorem bits_Mul32_eq (nf : Nat) (x : Int) (y : Int) : runF tab (bits_Mul32_phi nf) bits_Mul32_keep nf [PT.val (Ty.int IntKind.u32) (Md.bor true false), PT.val (Ty.int IntKind.u32) (Md.bor true false)] [(Ty.int IntKind.u32, Md.bor false true), (Ty.int IntKind.u32, Md.bor false true)] (resL ([]) Try.f63) (codeOf Try.f63) ⟨x, y, ()⟩ = bits_Mul32_f nf x y := by
  have h : runF tab (bits_Mul32_phi nf) bits_Mul32_keep nf [PT.val (Ty.int IntKind.u32) (Md.bor true false), PT.val (Ty.int IntKind.u32) (Md.bor true false)] [(Ty.int IntKind.u32, Md.bor false true), (Ty.int IntKind.u32, Md.bor false true)] (resL ([]) Try.f63) (codeOf Try.f63) ⟨x, y, ()⟩ = bits_Mul32_p nf  x y := by kernel_rfl
  exact h
def bits_Mul32_F (nf : Nat) (x : denPs [.val (.int .u32) (.bor true false), .val (.int .u32) (.bor true false)]) : Option (denL [(.int .u32, .bor false true), (.int .u32, .bor false true)]) := bits_Mul32_f nf x.1 x.2.1
def bits_Mul32_C (nf : Nat) : Contract := ⟨[.val (.int .u32) (.bor true false), .val (.int .u32) (.bor true false)], [(.int .u32, .bor false true), (.int .u32, .bor false true)], bits_Mul32_F nf, []⟩
theorem bits_Mul32_ok : FnOK Try.prog 63 := ⟨Try.f63, codeOf Try.f63, Try.func63, by kernel_rfl, by kernel_rfl⟩
theorem bits_Mul32_holds (nf : Nat) : Contract.Holds Try.prog 63 (bits_Mul32_C nf) :=
  fn_holds (Φ := bits_Mul32_phi nf) (keep := bits_Mul32_keep) (n := nf) ⟨tabs.1, tabs.2, ctx_nil, mixed, bk_ok bkls rfl⟩ (fn := Try.f63) ⟨Try.func63, by kernel_rfl, by kernel_rfl, by kernel_rfl⟩ (fun x => bits_Mul32_eq nf x.1 x.2.1)

/-! math bits.Mul64 -/
def bits_Mul64_phi (nf : Nat) : Nat → Option Contract := lookC []
def bits_Mul64_keep : Nat → List Nat := lookK []
def bits_Mul64_p (nf : Nat)  (x : Int) (y : Int) : Option (Int × Int × Unit) :=
  some ((IntKind.u64.wrap (IntKind.u64.wrap (IntKind.u64.wrap (shrI IntKind.u64 x 32 * shrI IntKind.u64 y 32) + shrI IntKind.u64 (IntKind.u64.wrap (IntKind.u64.wrap (shrI IntKind.u64 x 32 * IntKind.u64.wrap (↑(BitVec.ofInt IntKind.u64.bits y &&& BitVec.ofInt IntKind.u64.bits 4294967295).toNat : Int)) + shrI IntKind.u64 (IntKind.u64.wrap (IntKind.u64.wrap (↑(BitVec.ofInt IntKind.u64.bits x &&& BitVec.ofInt IntKind.u64.bits 4294967295).toNat : Int) * IntKind.u64.wrap (↑(BitVec.ofInt IntKind.u64.bits y &&& BitVec.ofInt IntKind.u64.bits 4294967295).toNat : Int))) 32)) 32) + shrI IntKind.u64 (IntKind.u64.wrap (IntKind.u64.wrap (↑(BitVec.ofInt IntKind.u64.bits (IntKind.u64.wrap (IntKind.u64.wrap (shrI IntKind.u64 x 32 * IntKind.u64.wrap (↑(BitVec.ofInt IntKind.u64.bits y &&& BitVec.ofInt IntKind.u64.bits 4294967295).toNat : Int)) + shrI IntKind.u64 (IntKind.u64.wrap (IntKind.u64.wrap (↑(BitVec.ofInt IntKind.u64.bits x &&& BitVec.ofInt IntKind.u64.bits 4294967295).toNat : Int) * IntKind.u64.wrap (↑(BitVec.ofInt IntKind.u64.bits y &&& BitVec.ofInt IntKind.u64.bits 4294967295).toNat : Int))) 32)) &&& BitVec.ofInt IntKind.u64.bits 4294967295).toNat : Int) + IntKind.u64.wrap (IntKind.u64.wrap (↑(BitVec.ofInt IntKind.u64.bits x &&& BitVec.ofInt IntKind.u64.bits 4294967295).toNat : Int) * shrI IntKind.u64 y 32))) 32), IntKind.u64.wrap (x * y), ()))
def bits_Mul64_f (nf : Nat) (x : Int) (y : Int) : Option (Int × Int × Unit) := bits_Mul64_p nf  x y
theorem bits_Mul64_eq (nf : Nat) (x : Int) (y : Int) : runF tab (bits_Mul64_phi nf) bits_Mul64_keep nf [PT.val (Ty.int IntKind.u64) (Md.bor true false), PT.val (Ty.int IntKind.u64) (Md.bor true false)] [(Ty.int IntKind.u64, Md.bor false true), (Ty.int IntKind.u64, Md.bor false true)] (resL ([]) Try.f64) (codeOf Try.f64) ⟨x, y, ()⟩ = bits_Mul64_f nf x y := by
  have h : runF tab (bits_Mul64_phi nf) bits_Mul64_keep nf [PT.val (Ty.int IntKind.u64) (Md.bor true false), PT.val (Ty.int IntKind.u64) (Md.bor true false)] [(Ty.int IntKind.u64, Md.bor false true), (Ty.int IntKind.u64, Md.bor false true)] (resL ([]) Try.f64) (codeOf Try.f64) ⟨x, y, ()⟩ = bits_Mul64_p nf  x y := by kernel_rfl
  exact h
def bits_Mul64_F (nf : Nat) (x : denPs [.val (.int .u64) (.bor true false), .val (.int .u64) (.bor true false)]) : Option (denL [(.int .u64, .bor false true), (.int .u64, .bor false true)]) := bits_Mul64_f nf x.1 x.2.1
def bits_Mul64_C (nf : Nat) : Contract := ⟨[.val (.int .u64) (.bor true false), .val (.int .u64) (.bor true false)], [(.int .u64, .bor false true), (.int .u64, .bor false true)], bits_Mul64_F nf, []⟩
theorem bits_Mul64_ok : FnOK Try.prog 64 := ⟨Try.f64, codeOf Try.f64, Try.func64, by kernel_rfl, by kernel_rfl⟩
theorem bits_Mul64_holds (nf : Nat) : Contract.Holds Try.prog 64 (bits_Mul64_C nf) :=
  fn_holds (Φ := bits_Mul64_phi nf) (keep := bits_Mul64_keep) (n := nf) ⟨tabs.1, tabs.2, ctx_nil, mixed, bk_ok bkls rfl⟩ (fn := Try.f64) ⟨Try.func64, by kernel_rfl, by kernel_rfl, by kernel_rfl⟩ (fun x => bits_Mul64_eq nf x.1 x.2.1)

/-! math bits.Mul -/
def bits_Mul_phi (nf : Nat) : Nat → Option Contract := lookC [(63, bits_Mul32_C nf), (64, bits_Mul64_C nf)]
def bits_Mul_keep : Nat → List Nat := lookK []
def bits_Mul_p (nf : Nat)  (x : Int) (y : Int) : Option (Int × Int × Unit) :=
  Option.bind (bits_Mul64_f nf x y) fun r =>
  some ((r.fst, r.snd.fst, ()))
def bits_Mul_f (nf : Nat) (x : Int) (y : Int) : Option (Int × Int × Unit) := bits_Mul_p nf  x y
theorem bits_Mul_eq (nf : Nat) (x : Int) (y : Int) : runF tab (bits_Mul_phi nf) bits_Mul_keep nf [PT.val (Ty.int IntKind.u64) (Md.bor true false), PT.val (Ty.int IntKind.u64) (Md.bor true false)] [(Ty.int IntKind.u64, Md.bor false true), (Ty.int IntKind.u64, Md.bor false true)] (resL ([]) Try.f59) (codeOf Try.f59) ⟨x, y, ()⟩ = bits_Mul_f nf x y := by
  have h : runF tab (bits_Mul_phi nf) bits_Mul_keep nf [PT.val (Ty.int IntKind.u64) (Md.bor true false), PT.val (Ty.int IntKind.u64) (Md.bor true false)] [(Ty.int IntKind.u64, Md.bor false true), (Ty.int IntKind.u64, Md.bor false true)] (resL ([]) Try.f59) (codeOf Try.f59) ⟨x, y, ()⟩ = bits_Mul_p nf  x y := by kernel_rfl
  exact h
def bits_Mul_F (nf : Nat) (x : denPs [.val (.int .u64) (.bor true false), .val (.int .u64) (.bor true false)]) : Option (denL [(.int .u64, .bor false true), (.int .u64, .bor false true)]) := bits_Mul_f nf x.1 x.2.1
def bits_Mul_C (nf : Nat) : Contract := ⟨[.val (.int .u64) (.bor true false), .val (.int .u64) (.bor true false)], [(.int .u64, .bor false true), (.int .u64, .bor false true)], bits_Mul_F nf, []⟩
theorem bits_Mul_ok : FnOK Try.prog 59 := ⟨Try.f59, codeOf Try.f59, Try.func59, by kernel_rfl, by kernel_rfl⟩
theorem bits_Mul_holds (nf : Nat) : Contract.Holds Try.prog 59 (bits_Mul_C nf) :=
  fn_holds (Φ := bits_Mul_phi nf) (keep := bits_Mul_keep) (n := nf) ⟨tabs.1, tabs.2, (ctx_cons bits_Mul32_ok (bits_Mul32_holds nf) (ctx_cons bits_Mul64_ok (bits_Mul64_holds nf) ctx_nil)), mixed, bk_ok bkls rfl⟩ (fn := Try.f59) ⟨Try.func59, by kernel_rfl, by kernel_rfl, by kernel_rfl⟩ (fun x => bits_Mul_eq nf x.1 x.2.1)

/-! slices.Repeat   int int  -/
def slices_Repeat_phi (nf : Nat) : Nat → Option Contract := lookC [(59, bits_Mul_C nf)]
def slices_Repeat_keep : Nat → List Nat := lookK [(0, [7, 8, 30])]
def slices_Repeat_b0 (nf : Nat)  (g0 : List Int → Int → Option (List Int × Unit)) (newslice : List Int) (n' : Int) : Option (List Int × Unit) :=
  bif decide (n' < (↑newslice.length : Int)) then
    bif decide (0 ≤ n') && decide (n' ≤ (↑newslice.length : Int)) && decide ((↑newslice.length : Int) ≤ (↑newslice.length : Int)) then
      bif decide (0 ≤ (↑0 : Int)) && decide ((↑0 : Int) ≤ n') && decide (n' ≤ (↑newslice.length : Int)) then
        g0 (List.take n'.toNat newslice ++ (List.take (((some ((↑newslice.length : Int) - n').toNat).getD newslice.length).min (List.take (n' - (↑0 : Int)).toNat (List.drop 0 newslice)).length) (List.take (n' - (↑0 : Int)).toNat (List.drop 0 newslice)) ++ List.drop (n'.toNat + ((some ((↑newslice.length : Int) - n').toNat).getD newslice.length).min (List.take (n' - (↑0 : Int)).toNat (List.drop 0 newslice)).length) newslice)) (IntKind.i64.wrap (n' + (↑(((some ((↑newslice.length : Int) - n').toNat).getD newslice.length).min (List.take (n' - (↑0 : Int)).toNat (List.drop 0 newslice)).length) : Int)))
      else
        none
    else
      none
  else
    some ((newslice, ()))
def slices_Repeat_p (nf : Nat) (l0 : List Int → Int → Option (List Int × Unit)) (x : List Int) (count : Int) : Option (List Int × Unit) :=
  bif decide (count < 0) then
    none
  else
    Option.bind (bits_Mul_f nf (IntKind.u64.wrap (↑x.length : Int)) (IntKind.u64.wrap count)) fun r =>
    bif decide (r.fst > 0) then
      none
    else
      bif decide (r.snd.fst > 9223372036854775807) then
        none
      else
        bif decide (0 ≤ IntKind.i64.wrap r.snd.fst) && decide (IntKind.i64.wrap r.snd.fst ≤ IntKind.i64.wrap r.snd.fst) && decide (IntKind.i64.wrap r.snd.fst ≤ (↑lim : Int)) then
          l0 (List.take 0 (List.replicate (IntKind.i64.wrap r.snd.fst).toNat 0) ++ (List.take ((none.getD (List.replicate (IntKind.i64.wrap r.snd.fst).toNat (0 : Int)).length).min x.length) x ++ List.drop (0 + (none.getD (List.replicate (IntKind.i64.wrap r.snd.fst).toNat (0 : Int)).length).min x.length) (List.replicate (IntKind.i64.wrap r.snd.fst).toNat 0))) ((↑((none.getD (List.replicate (IntKind.i64.wrap r.snd.fst).toNat (0 : Int)).length).min x.length) : Int))
        else
          none
def slices_Repeat_l0 (nf : Nat)  : Nat → List Int → Int → Option (List Int × Unit)
  | 0, _, _ => none
  | fu + 1, newslice, n' => slices_Repeat_b0 nf    (slices_Repeat_l0 nf   fu) newslice n'
def slices_Repeat_f (nf : Nat) (x : List Int) (count : Int) : Option (List Int × Unit) := slices_Repeat_p nf (fun  v0 v1 => slices_Repeat_l0 nf  nf v0 v1) x count
noncomputable def slices_Repeat_L0 (nf : Nat) : LC (List Int × Unit) := theL (findL tab (slices_Repeat_phi nf) (fun _ F => iter nf F) slices_Repeat_keep 0 0 (codeOf Try.f50) (fin tab [((Ty.int IntKind.i64).sl, Md.own false (Md.bor false false))] (resL ([]) Try.f50)) (fun _ _ => none) (fin tab [((Ty.int IntKind.i64).sl, Md.own false (Md.bor false false))] (resL ([]) Try.f50)))
def slices_Repeat_m0 (newslice : List Int) (n' : Int) : St := ⟨fresh, [(7, AV.ow 500007 (Ty.int IntKind.i64).sl (Md.own false (Md.bor false false)) newslice), (8, AV.v (Ty.int IntKind.i64) (Md.bor false true) n'), (30, AV.dead)]⟩
theorem slices_Repeat_h0 (nf : Nat)   (fu : Nat) (newslice : List Int) (n' : Int) : iter (fu + 1) (LC.F tab (slices_Repeat_phi nf) (fun _ F => iter nf F) slices_Repeat_keep 0 (slices_Repeat_L0 nf )) (slices_Repeat_m0  newslice n') = slices_Repeat_b0 nf    (fun newslice n' => iter fu (LC.F tab (slices_Repeat_phi nf) (fun _ F => iter nf F) slices_Repeat_keep 0 (slices_Repeat_L0 nf )) (slices_Repeat_m0  newslice n')) newslice n' := by kernel_rfl
theorem slices_Repeat_e0 (nf : Nat)   : ∀ (fu : Nat) (newslice : List Int) (n' : Int), iter fu (LC.F tab (slices_Repeat_phi nf) (fun _ F => iter nf F) slices_Repeat_keep 0 (slices_Repeat_L0 nf )) (slices_Repeat_m0  newslice n') = slices_Repeat_l0 nf   fu newslice n' := by
  intro fu
  induction fu with
  | zero => intros; rfl
  | succ fu ih =>
    intro newslice n'
    rw [slices_Repeat_h0 nf   fu newslice n']
    simp only [ih]
    rfl
theorem slices_Repeat_eq (nf : Nat) (x : List Int) (count : Int) : runF tab (slices_Repeat_phi nf) slices_Repeat_keep nf [PT.val (Ty.int IntKind.i64).sl (Md.bor true false), PT.val (Ty.int IntKind.i64) (Md.bor true false)] [((Ty.int IntKind.i64).sl, Md.own false (Md.bor false false))] (resL ([]) Try.f50) (codeOf Try.f50) ⟨x, count, ()⟩ = slices_Repeat_f nf x count := by
  have h : runF tab (slices_Repeat_phi nf) slices_Repeat_keep nf [PT.val (Ty.int IntKind.i64).sl (Md.bor true false), PT.val (Ty.int IntKind.i64) (Md.bor true false)] [((Ty.int IntKind.i64).sl, Md.own false (Md.bor false false))] (resL ([]) Try.f50) (codeOf Try.f50) ⟨x, count, ()⟩ = slices_Repeat_p nf (fun  v0 v1 => iter nf (LC.F tab (slices_Repeat_phi nf) (fun _ F => iter nf F) slices_Repeat_keep 0 (slices_Repeat_L0 nf)) (slices_Repeat_m0  v0 v1)) x count := by kernel_rfl
  rw [h]
  simp only [slices_Repeat_e0]
  rfl
def slices_Repeat_F (nf : Nat) (x : denPs [.val (.sl (.int .i64)) (.bor true false), .val (.int .i64) (.bor true false)]) : Option (denL [(.sl (.int .i64), .own false (.bor false false))]) := slices_Repeat_f nf x.1 x.2.1
def slices_Repeat_C (nf : Nat) : Contract := ⟨[.val (.sl (.int .i64)) (.bor true false), .val (.int .i64) (.bor true false)], [(.sl (.int .i64), .own false (.bor false false))], slices_Repeat_F nf, []⟩
theorem slices_Repeat_ok : FnOK Try.prog 50 := ⟨Try.f50, codeOf Try.f50, Try.func50, by kernel_rfl, by kernel_rfl⟩
theorem slices_Repeat_holds (nf : Nat) : Contract.Holds Try.prog 50 (slices_Repeat_C nf) :=
  fn_holds (Φ := slices_Repeat_phi nf) (keep := slices_Repeat_keep) (n := nf) ⟨tabs.1, tabs.2, (ctx_cons bits_Mul_ok (bits_Mul_holds nf) ctx_nil), mixed, bk_ok bkls rfl⟩ (fn := Try.f50) ⟨Try.func50, by kernel_rfl, by kernel_rfl, by kernel_rfl⟩ (fun x => slices_Repeat_eq nf x.1 x.2.1)

/-! slices.Clone   int int  -/
def slices_Clone_phi (nf : Nat) : Nat → Option Contract := lookC []
def slices_Clone_keep : Nat → List Nat := lookK []
def slices_Clone_p (nf : Nat)  (s : List Int) : Option (List Int × Unit) :=
  bif s.isEmpty then
    both (some (([], ()))) (bif bimp false !s.isEmpty && ((List.length ([] : List Unit)) + s.length).ble lim then
      some (([] ++ s, ()))
    else
      none)
  else
    bif bimp false !s.isEmpty && ((List.length ([] : List Unit)) + s.length).ble lim then
      some (([] ++ s, ()))
    else
      none
def slices_Clone_f (nf : Nat) (s : List Int) : Option (List Int × Unit) := slices_Clone_p nf  s
theorem slices_Clone_eq (nf : Nat) (s : List Int) : runF tab (slices_Clone_phi nf) slices_Clone_keep nf [PT.val (Ty.int IntKind.i64).sl (Md.bor true false)] [((Ty.int IntKind.i64).sl, Md.own false (Md.bor false false))] (resL ([]) Try.f51) (codeOf Try.f51) ⟨s, ()⟩ = slices_Clone_f nf s := by
  have h : runF tab (slices_Clone_phi nf) slices_Clone_keep nf [PT.val (Ty.int IntKind.i64).sl (Md.bor true false)] [((Ty.int IntKind.i64).sl, Md.own false (Md.bor false false))] (resL ([]) Try.f51) (codeOf Try.f51) ⟨s, ()⟩ = slices_Clone_p nf  s := by kernel_rfl
  exact h
def slices_Clone_F (nf : Nat) (x : denPs [.val (.sl (.int .i64)) (.bor true false)]) : Option (denL [(.sl (.int .i64), .own false (.bor false false))]) := slices_Clone_f nf x.1
def slices_Clone_C (nf : Nat) : Contract := ⟨[.val (.sl (.int .i64)) (.bor true false)], [(.sl (.int .i64), .own false (.bor false false))], slices_Clone_F nf, []⟩
theorem slices_Clone_ok : FnOK Try.prog 51 := ⟨Try.f51, codeOf Try.f51, Try.func51, by kernel_rfl, by kernel_rfl⟩
theorem slices_Clone_holds (nf : Nat) : Contract.Holds Try.prog 51 (slices_Clone_C nf) :=
  fn_holds (Φ := slices_Clone_phi nf) (keep := slices_Clone_keep) (n := nf) ⟨tabs.1, tabs.2, ctx_nil, mixed, bk_ok bkls rfl⟩ (fn := Try.f51) ⟨Try.func51, by kernel_rfl, by kernel_rfl, by kernel_rfl⟩ (fun x => slices_Clone_eq nf x.1)

/-!   codemason point.classes .join -/
def point_classes_join_phi (nf : Nat) : Nat → Option Contract := lookC []
def point_classes_join_keep : Nat → List Nat := lookK [(2, [0, 1, 2, 6, 7, 35, 36, 37, 38, 39, 40]), (0, [0, 1, 2])]
def point_classes_join_b0 (nf : Nat) (l2 : Int → Int → List Int × List Int × Unit → List Int × List Int × Unit → Int → Option (Option (List Int × List Int × Unit) × Unit)) (g0 : List Int × List Int × Unit → Int → Int → Option (Option (List Int × List Int × Unit) × Unit)) (c2 : List Int × List Int × Unit) (a2 : Int) (b2 : Int) : Option (Option (List Int × List Int × Unit) × Unit) :=
  bif a2 != b2 then
    bif decide (a2 ≥ 0) then
      bif decide (b2 ≥ 0) then
        bif inb a2 (List.length c2.snd.fst) then
          bif inb b2 (List.length c2.snd.fst) then
            l2 a2 b2 c2 c2 0
          else
            none
        else
          none
      else
        some ((some c2, ()))
    else
      some ((some c2, ()))
  else
    some ((some c2, ()))
def point_classes_join_b2 (nf : Nat) (a2 : Int) (b2 : Int) (c2 : List Int × List Int × Unit) (g0 : List Int × List Int × Unit → Int → Int → Option (Option (List Int × List Int × Unit) × Unit)) (g2 : List Int × List Int × Unit → Int → Option (Option (List Int × List Int × Unit) × Unit)) (c3 : List Int × List Int × Unit) (t40 : Int) : Option (Option (List Int × List Int × Unit) × Unit) :=
  bif decide (t40 < (↑(List.length c2.fst) : Int)) then
    bif inb t40 (List.length c3.fst) then
      bif List.getD c3.fst t40.toNat 0 == b2 then
        bif inb t40 (List.length c3.fst) then
          bif inb t40 (List.length c3.snd.fst) then
            bif List.getD c3.snd.fst t40.toNat 0 == b2 then
              bif inb t40 (List.length c3.snd.fst) then
                g2 ((List.set c3.fst t40.toNat a2, List.set c3.snd.fst t40.toNat a2, c3.snd.snd)) (IntKind.i64.wrap (t40 + 1))
              else
                none
            else
              g2 ((List.set c3.fst t40.toNat a2, c3.snd)) (IntKind.i64.wrap (t40 + 1))
          else
            none
        else
          none
      else
        bif inb t40 (List.length c3.snd.fst) then
          bif List.getD c3.snd.fst t40.toNat 0 == b2 then
            bif inb t40 (List.length c3.snd.fst) then
              g2 ((c3.fst, List.set c3.snd.fst t40.toNat a2, c3.snd.snd)) (IntKind.i64.wrap (t40 + 1))
            else
              none
          else
            g2 c3 (IntKind.i64.wrap (t40 + 1))
        else
          none
    else
      none
  else
    bif inb a2 (List.length c3.snd.fst) then
      bif decide (List.getD c2.snd.fst a2.toNat 0 < 0) then
        bif inb a2 (List.set c3.snd.fst a2.toNat (List.getD c2.snd.fst a2.toNat 0)).length then
          bif inb a2 ((List.set c3.snd.fst a2.toNat (List.getD c2.snd.fst a2.toNat 0)).set a2.toNat (List.getD c2.snd.fst b2.toNat 0)).length then
            bif ((List.set c3.snd.fst a2.toNat (List.getD c2.snd.fst a2.toNat 0)).set a2.toNat (List.getD c2.snd.fst b2.toNat 0)).getD a2.toNat 0 == b2 then
              bif inb a2 ((List.set c3.snd.fst a2.toNat (List.getD c2.snd.fst a2.toNat 0)).set a2.toNat (List.getD c2.snd.fst b2.toNat 0)).length then
                bif List.getD c2.snd.fst a2.toNat 0 == b2 then
                  bif List.getD c2.snd.fst b2.toNat 0 == b2 then
                    g0 ((c3.fst, ((List.set c3.snd.fst a2.toNat (List.getD c2.snd.fst a2.toNat 0)).set a2.toNat (List.getD c2.snd.fst b2.toNat 0)).set a2.toNat a2, c3.snd.snd)) a2 a2
                  else
                    g0 ((c3.fst, ((List.set c3.snd.fst a2.toNat (List.getD c2.snd.fst a2.toNat 0)).set a2.toNat (List.getD c2.snd.fst b2.toNat 0)).set a2.toNat a2, c3.snd.snd)) a2 (List.getD c2.snd.fst b2.toNat 0)
                else
                  bif List.getD c2.snd.fst b2.toNat 0 == b2 then
                    g0 ((c3.fst, ((List.set c3.snd.fst a2.toNat (List.getD c2.snd.fst a2.toNat 0)).set a2.toNat (List.getD c2.snd.fst b2.toNat 0)).set a2.toNat a2, c3.snd.snd)) (List.getD c2.snd.fst a2.toNat 0) a2
                  else
                    g0 ((c3.fst, ((List.set c3.snd.fst a2.toNat (List.getD c2.snd.fst a2.toNat 0)).set a2.toNat (List.getD c2.snd.fst b2.toNat 0)).set a2.toNat a2, c3.snd.snd)) (List.getD c2.snd.fst a2.toNat 0) (List.getD c2.snd.fst b2.toNat 0)
              else
                none
            else
              bif List.getD c2.snd.fst a2.toNat 0 == b2 then
                bif List.getD c2.snd.fst b2.toNat 0 == b2 then
                  g0 ((c3.fst, (List.set c3.snd.fst a2.toNat (List.getD c2.snd.fst a2.toNat 0)).set a2.toNat (List.getD c2.snd.fst b2.toNat 0), c3.snd.snd)) a2 a2
                else
                  g0 ((c3.fst, (List.set c3.snd.fst a2.toNat (List.getD c2.snd.fst a2.toNat 0)).set a2.toNat (List.getD c2.snd.fst b2.toNat 0), c3.snd.snd)) a2 (List.getD c2.snd.fst b2.toNat 0)
              else
                bif List.getD c2.snd.fst b2.toNat 0 == b2 then
                  g0 ((c3.fst, (List.set c3.snd.fst a2.toNat (List.getD c2.snd.fst a2.toNat 0)).set a2.toNat (List.getD c2.snd.fst b2.toNat 0), c3.snd.snd)) (List.getD c2.snd.fst a2.toNat 0) a2
                else
                  g0 ((c3.fst, (List.set c3.snd.fst a2.toNat (List.getD c2.snd.fst a2.toNat 0)).set a2.toNat (List.getD c2.snd.fst b2.toNat 0), c3.snd.snd)) (List.getD c2.snd.fst a2.toNat 0) (List.getD c2.snd.fst b2.toNat 0)
          else
            none
        else
          none
      else
        bif inb a2 (List.set c3.snd.fst a2.toNat (List.getD c2.snd.fst a2.toNat 0)).length then
          bif (List.set c3.snd.fst a2.toNat (List.getD c2.snd.fst a2.toNat 0)).getD a2.toNat 0 == b2 then
            bif inb a2 (List.set c3.snd.fst a2.toNat (List.getD c2.snd.fst a2.toNat 0)).length then
              bif List.getD c2.snd.fst a2.toNat 0 == b2 then
                bif List.getD c2.snd.fst b2.toNat 0 == b2 then
                  g0 ((c3.fst, (List.set c3.snd.fst a2.toNat (List.getD c2.snd.fst a2.toNat 0)).set a2.toNat a2, c3.snd.snd)) a2 a2
                else
                  g0 ((c3.fst, (List.set c3.snd.fst a2.toNat (List.getD c2.snd.fst a2.toNat 0)).set a2.toNat a2, c3.snd.snd)) a2 (List.getD c2.snd.fst b2.toNat 0)
              else
                bif List.getD c2.snd.fst b2.toNat 0 == b2 then
                  g0 ((c3.fst, (List.set c3.snd.fst a2.toNat (List.getD c2.snd.fst a2.toNat 0)).set a2.toNat a2, c3.snd.snd)) (List.getD c2.snd.fst a2.toNat 0) a2
                else
                  g0 ((c3.fst, (List.set c3.snd.fst a2.toNat (List.getD c2.snd.fst a2.toNat 0)).set a2.toNat a2, c3.snd.snd)) (List.getD c2.snd.fst a2.toNat 0) (List.getD c2.snd.fst b2.toNat 0)
            else
              none
          else
            bif List.getD c2.snd.fst a2.toNat 0 == b2 then
              bif List.getD c2.snd.fst b2.toNat 0 == b2 then
                g0 ((c3.fst, List.set c3.snd.fst a2.toNat (List.getD c2.snd.fst a2.toNat 0), c3.snd.snd)) a2 a2
              else
                g0 ((c3.fst, List.set c3.snd.fst a2.toNat (List.getD c2.snd.fst a2.toNat 0), c3.snd.snd)) a2 (List.getD c2.snd.fst b2.toNat 0)
            else
              bif List.getD c2.snd.fst b2.toNat 0 == b2 then
                g0 ((c3.fst, List.set c3.snd.fst a2.toNat (List.getD c2.snd.fst a2.toNat 0), c3.snd.snd)) (List.getD c2.snd.fst a2.toNat 0) a2
              else
                g0 ((c3.fst, List.set c3.snd.fst a2.toNat (List.getD c2.snd.fst a2.toNat 0), c3.snd.snd)) (List.getD c2.snd.fst a2.toNat 0) (List.getD c2.snd.fst b2.toNat 0)
        else
          none
    else
      none
def point_classes_join_p (nf : Nat) (l0 : List Int × List Int × Unit → Int → Int → Option (Option (List Int × List Int × Unit) × Unit)) (c : List Int × List Int × Unit) (a : Int) (b : Int) : Option (Option (List Int × List Int × Unit) × Unit) :=
  l0 c a b
def point_classes_join_l2 (nf : Nat) (a2 : Int) (b2 : Int) (c2 : List Int × List Int × Unit) (g0 : List Int × List Int × Unit → Int → Int → Option (Option (List Int × List Int × Unit) × Unit)) : Nat → List Int × List Int × Unit → Int → Option (Option (List Int × List Int × Unit) × Unit)
  | 0, _, _ => none
  | fu + 1, c3, t40 => point_classes_join_b2 nf  a2 b2 c2 g0 (point_classes_join_l2 nf a2 b2 c2 g0 fu) c3 t40
def point_classes_join_l0 (nf : Nat)  : Nat → List Int × List Int × Unit → Int → Int → Option (Option (List Int × List Int × Unit) × Unit)
  | 0, _, _, _ => none
  | fu + 1, c2, a2, b2 => point_classes_join_b0 nf (fun p0 p1 p2 v0 v1 => point_classes_join_l2 nf p0 p1 p2 (fun c2 a2 b2 => point_classes_join_l0 nf   fu c2 a2 b2) nf v0 v1)   (point_classes_join_l0 nf   fu) c2 a2 b2
def point_classes_join_f (nf : Nat) (c : List Int × List Int × Unit) (a : Int) (b : Int) : Option (Option (List Int × List Int × Unit) × Unit) := point_classes_join_p nf (fun  v0 v1 v2 => point_classes_join_l0 nf  nf v0 v1 v2) c a b
noncomputable def point_classes_join_L0 (nf : Nat) : LC (Option (List Int × List Int × Unit) × Unit) := theL (findL tab (point_classes_join_phi nf) (fun _ F => iter nf F) point_classes_join_keep 0 0 (codeOf Try.f60) (fin tab [(((Ty.int IntKind.i64).sl.pair ((Ty.int IntKind.i64).sl.pair Ty.unit)).bx, Md.own false ((Md.own false (Md.bor false false)).pair ((Md.own false (Md.bor false false)).pair (Md.bor false false))))] (resL ([0]) Try.f60)) (fun _ _ => none) (fin tab [(((Ty.int IntKind.i64).sl.pair ((Ty.int IntKind.i64).sl.pair Ty.unit)).bx, Md.own false ((Md.own false (Md.bor false false)).pair ((Md.own false (Md.bor false false)).pair (Md.bor false false))))] (resL ([0]) Try.f60)))
def point_classes_join_m0 (c2 : List Int × List Int × Unit) (a2 : Int) (b2 : Int) : St := ⟨fresh, [(0, AV.box 0 500000 ((Ty.int IntKind.i64).sl.pair ((Ty.int IntKind.i64).sl.pair Ty.unit)) ((Md.own false (Md.bor false false)).pair ((Md.own false (Md.bor false false)).pair (Md.bor false false))) c2), (1, AV.v (Ty.int IntKind.i64) (Md.bor false true) a2), (2, AV.v (Ty.int IntKind.i64) (Md.bor false true) b2)]⟩
noncomputable def point_classes_join_L2 (nf : Nat) (G0 : St → Option (Option (List Int × List Int × Unit) × Unit)) : LC (Option (List Int × List Int × Unit) × Unit) := theL (findL tab (point_classes_join_phi nf) (fun _ F => iter nf F) point_classes_join_keep 2 0 (point_classes_join_L0 nf ).c (fun st => norm (point_classes_join_keep 0) st G0) (point_classes_join_L0 nf ).Kx (point_classes_join_L0 nf ).Kr)
def point_classes_join_m2 (a2 : Int) (b2 : Int) (c2 : List Int × List Int × Unit) (c3 : List Int × List Int × Unit) (t40 : Int) : St := ⟨fresh, [(0, AV.box 0 500000 ((Ty.int IntKind.i64).sl.pair ((Ty.int IntKind.i64).sl.pair Ty.unit)) ((Md.own false (Md.bor false false)).pair ((Md.own false (Md.bor false false)).pair (Md.bor false false))) c3), (1, AV.v (Ty.int IntKind.i64) (Md.bor false true) a2), (2, AV.v (Ty.int IntKind.i64) (Md.bor false true) b2), (6, AV.v (Ty.int IntKind.i64) (Md.bor false true) (List.getD c2.snd.fst a2.toNat 0)), (7, AV.v (Ty.int IntKind.i64) (Md.bor false true) (List.getD c2.snd.fst b2.toNat 0)), (35, AV.pl 0 0 [Stp.dr]), (36, AV.pl 0 0 [Stp.dr]), (37, AV.pl 0 0 [Stp.dr, Stp.fld 0]), (38, AV.al 0 500000 [Stp.dr, Stp.fld 0]), (39, AV.v (Ty.int IntKind.i64) (Md.bor false true) (↑(List.length c2.fst) : Int)), (40, AV.v (Ty.int IntKind.i64) (Md.bor false true) t40)]⟩
theorem point_classes_join_h2 (nf : Nat) (G0 : St → Option (Option (List Int × List Int × Unit) × Unit)) (a2 : Int) (b2 : Int) (c2 : List Int × List Int × Unit) (fu : Nat) (c3 : List Int × List Int × Unit) (t40 : Int) : iter (fu + 1) (LC.F tab (point_classes_join_phi nf) (fun _ F => iter nf F) point_classes_join_keep 2 (point_classes_join_L2 nf G0)) (point_classes_join_m2 a2 b2 c2 c3 t40) = point_classes_join_b2 nf  a2 b2 c2 (fun c2 a2 b2 => G0 (point_classes_join_m0  c2 a2 b2)) (fun c3 t40 => iter fu (LC.F tab (point_classes_join_phi nf) (fun _ F => iter nf F) point_classes_join_keep 2 (point_classes_join_L2 nf G0)) (point_classes_join_m2 a2 b2 c2 c3 t40)) c3 t40 := by kernel_rfl
theorem point_classes_join_e2 (nf : Nat) (G0 : St → Option (Option (List Int × List Int × Unit) × Unit)) (a2 : Int) (b2 : Int) (c2 : List Int × List Int × Unit) : ∀ (fu : Nat) (c3 : List Int × List Int × Unit) (t40 : Int), iter fu (LC.F tab (point_classes_join_phi nf) (fun _ F => iter nf F) point_classes_join_keep 2 (point_classes_join_L2 nf G0)) (point_classes_join_m2 a2 b2 c2 c3 t40) = point_classes_join_l2 nf a2 b2 c2 (fun c2 a2 b2 => G0 (point_classes_join_m0  c2 a2 b2)) fu c3 t40 := by
  intro fu
  induction fu with
  | zero => intros; rfl
  | succ fu ih =>
    intro c3 t40
    rw [point_classes_join_h2 nf G0 a2 b2 c2 fu c3 t40]
    simp only [ih]
    rfl
theorem point_classes_join_h0 (nf : Nat)   (fu : Nat) (c2 : List Int × List Int × Unit) (a2 : Int) (b2 : Int) : iter (fu + 1) (LC.F tab (point_classes_join_phi nf) (fun _ F => iter nf F) point_classes_join_keep 0 (point_classes_join_L0 nf )) (point_classes_join_m0  c2 a2 b2) = point_classes_join_b0 nf (fun p0 p1 p2 v0 v1 => iter nf (LC.F tab (point_classes_join_phi nf) (fun _ F => iter nf F) point_classes_join_keep 2 (point_classes_join_L2 nf (iter fu (LC.F tab (point_classes_join_phi nf) (fun _ F => iter nf F) point_classes_join_keep 0 (point_classes_join_L0 nf ))))) (point_classes_join_m2 p0 p1 p2 v0 v1))   (fun c2 a2 b2 => iter fu (LC.F tab (point_classes_join_phi nf) (fun _ F => iter nf F) point_classes_join_keep 0 (point_classes_join_L0 nf )) (point_classes_join_m0  c2 a2 b2)) c2 a2 b2 := by kernel_rfl
theorem point_classes_join_e0 (nf : Nat)   : ∀ (fu : Nat) (c2 : List Int × List Int × Unit) (a2 : Int) (b2 : Int), iter fu (LC.F tab (point_classes_join_phi nf) (fun _ F => iter nf F) point_classes_join_keep 0 (point_classes_join_L0 nf )) (point_classes_join_m0  c2 a2 b2) = point_classes_join_l0 nf   fu c2 a2 b2 := by
  intro fu
  induction fu with
  | zero => intros; rfl
  | succ fu ih =>
    intro c2 a2 b2
    rw [point_classes_join_h0 nf   fu c2 a2 b2]
    simp only [ih, point_classes_join_e2]
    rfl
theorem point_classes_join_eq (nf : Nat) (c : List Int × List Int × Unit) (a : Int) (b : Int) : runF tab (point_classes_join_phi nf) point_classes_join_keep nf [PT.box ((Ty.int IntKind.i64).sl.pair ((Ty.int IntKind.i64).sl.pair Ty.unit)) ((Md.own false (Md.bor false false)).pair ((Md.own false (Md.bor false false)).pair (Md.bor false false))), PT.val (Ty.int IntKind.i64) (Md.bor true false), PT.val (Ty.int IntKind.i64) (Md.bor true false)] [(((Ty.int IntKind.i64).sl.pair ((Ty.int IntKind.i64).sl.pair Ty.unit)).bx, Md.own false ((Md.own false (Md.bor false false)).pair ((Md.own false (Md.bor false false)).pair (Md.bor false false))))] (resL ([0]) Try.f60) (codeOf Try.f60) ⟨c, a, b, ()⟩ = point_classes_join_f nf c a b := by
  have h : runF tab (point_classes_join_phi nf) point_classes_join_keep nf [PT.box ((Ty.int IntKind.i64).sl.pair ((Ty.int IntKind.i64).sl.pair Ty.unit)) ((Md.own false (Md.bor false false)).pair ((Md.own false (Md.bor false false)).pair (Md.bor false false))), PT.val (Ty.int IntKind.i64) (Md.bor true false), PT.val (Ty.int IntKind.i64) (Md.bor true false)] [(((Ty.int IntKind.i64).sl.pair ((Ty.int IntKind.i64).sl.pair Ty.unit)).bx, Md.own false ((Md.own false (Md.bor false false)).pair ((Md.own false (Md.bor false false)).pair (Md.bor false false))))] (resL ([0]) Try.f60) (codeOf Try.f60) ⟨c, a, b, ()⟩ = point_classes_join_p nf (fun  v0 v1 v2 => iter nf (LC.F tab (point_classes_join_phi nf) (fun _ F => iter nf F) point_classes_join_keep 0 (point_classes_join_L0 nf)) (point_classes_join_m0  v0 v1 v2)) c a b := by kernel_rfl
  rw [h]
  simp only [point_classes_join_e0]
  rfl
def point_classes_join_F (nf : Nat) (x : denPs [.box (.pair (.sl (.int .i64)) (.pair (.sl (.int .i64)) (.unit))) (.pair (.own false (.bor false false)) (.pair (.own false (.bor false false)) (.bor false false))), .val (.int .i64) (.bor true false), .val (.int .i64) (.bor true false)]) : Option (denL [(.bx (.pair (.sl (.int .i64)) (.pair (.sl (.int .i64)) (.unit))), .own false (.pair (.own false (.bor false false)) (.pair (.own false (.bor false false)) (.bor false false))))]) := point_classes_join_f nf x.1 x.2.1 x.2.2.1
def point_classes_join_C (nf : Nat) : Contract := ⟨[.box (.pair (.sl (.int .i64)) (.pair (.sl (.int .i64)) (.unit))) (.pair (.own false (.bor false false)) (.pair (.own false (.bor false false)) (.bor false false))), .val (.int .i64) (.bor true false), .val (.int .i64) (.bor true false)], [(.bx (.pair (.sl (.int .i64)) (.pair (.sl (.int .i64)) (.unit))), .own false (.pair (.own false (.bor false false)) (.pair (.own false (.bor false false)) (.bor false false))))], point_classes_join_F nf, [0]⟩
theorem point_classes_join_ok : FnOK Try.prog 60 := ⟨Try.f60, codeOf Try.f60, Try.func60, by kernel_rfl, by kernel_rfl⟩
theorem point_classes_join_holds (nf : Nat) : Contract.Holds Try.prog 60 (point_classes_join_C nf) :=
  fn_holds (Φ := point_classes_join_phi nf) (keep := point_classes_join_keep) (n := nf) ⟨tabs.1, tabs.2, ctx_nil, mixed, bk_ok bkls rfl⟩ (fn := Try.f60) ⟨Try.func60, by kernel_rfl, by kernel_rfl, by kernel_rfl⟩ (fun x => point_classes_join_eq nf x.1 x.2.1 x.2.2.1)

/-!   codemason point.classes .same -/
def point_classes_same_phi (nf : Nat) : Nat → Option Contract := lookC [(60, point_classes_join_C nf)]
def point_classes_same_keep : Nat → List Nat := lookK []
def point_classes_same_p (nf : Nat)  (c : List Int × List Int × Unit) (a : Int) (b : Int) : Option (Option (List Int × List Int × Unit) × Unit) :=
  bif inb a (List.length c.snd.fst) then
    bif inb b (List.length c.snd.fst) then
      bif decide (List.getD c.snd.fst a.toNat 0 < 0) then
        bif inb a (List.length c.snd.fst) then
          some ((some (c.fst, List.set c.snd.fst a.toNat (List.getD c.snd.fst b.toNat 0), c.snd.snd), ()))
        else
          none
      else
        bif decide (List.getD c.snd.fst b.toNat 0 < 0) then
          bif inb b (List.length c.snd.fst) then
            some ((some (c.fst, List.set c.snd.fst b.toNat (List.getD c.snd.fst a.toNat 0), c.snd.snd), ()))
          else
            none
        else
          Option.bind (point_classes_join_f nf c (List.getD c.snd.fst a.toNat 0) (List.getD c.snd.fst b.toNat 0)) fun r =>
          Option.bind r.fst fun r2 =>
          some ((some r2, ()))
    else
      none
  else
    none
def point_classes_same_f (nf : Nat) (c : List Int × List Int × Unit) (a : Int) (b : Int) : Option (Option (List Int × List Int × Unit) × Unit) := point_classes_same_p nf  c a b
theorem point_classes_same_eq (nf : Nat) (c : List Int × List Int × Unit) (a : Int) (b : Int) : runF tab (point_classes_same_phi nf) point_classes_same_keep nf [PT.box ((Ty.int IntKind.i64).sl.pair ((Ty.int IntKind.i64).sl.pair Ty.unit)) ((Md.own false (Md.bor false false)).pair ((Md.own false (Md.bor false false)).pair (Md.bor false false))), PT.val (Ty.int IntKind.i64) (Md.bor true false), PT.val (Ty.int IntKind.i64) (Md.bor true false)] [(((Ty.int IntKind.i64).sl.pair ((Ty.int IntKind.i64).sl.pair Ty.unit)).bx, Md.own false ((Md.own false (Md.bor false false)).pair ((Md.own false (Md.bor false false)).pair (Md.bor false false))))] (resL ([0]) Try.f61) (codeOf Try.f61) ⟨c, a, b, ()⟩ = point_classes_same_f nf c a b := by
  have h : runF tab (point_classes_same_phi nf) point_classes_same_keep nf [PT.box ((Ty.int IntKind.i64).sl.pair ((Ty.int IntKind.i64).sl.pair Ty.unit)) ((Md.own false (Md.bor false false)).pair ((Md.own false (Md.bor false false)).pair (Md.bor false false))), PT.val (Ty.int IntKind.i64) (Md.bor true false), PT.val (Ty.int IntKind.i64) (Md.bor true false)] [(((Ty.int IntKind.i64).sl.pair ((Ty.int IntKind.i64).sl.pair Ty.unit)).bx, Md.own false ((Md.own false (Md.bor false false)).pair ((Md.own false (Md.bor false false)).pair (Md.bor false false))))] (resL ([0]) Try.f61) (codeOf Try.f61) ⟨c, a, b, ()⟩ = point_classes_same_p nf  c a b := by kernel_rfl
  exact h
def point_classes_same_F (nf : Nat) (x : denPs [.box (.pair (.sl (.int .i64)) (.pair (.sl (.int .i64)) (.unit))) (.pair (.own false (.bor false false)) (.pair (.own false (.bor false false)) (.bor false false))), .val (.int .i64) (.bor true false), .val (.int .i64) (.bor true false)]) : Option (denL [(.bx (.pair (.sl (.int .i64)) (.pair (.sl (.int .i64)) (.unit))), .own false (.pair (.own false (.bor false false)) (.pair (.own false (.bor false false)) (.bor false false))))]) := point_classes_same_f nf x.1 x.2.1 x.2.2.1
def point_classes_same_C (nf : Nat) : Contract := ⟨[.box (.pair (.sl (.int .i64)) (.pair (.sl (.int .i64)) (.unit))) (.pair (.own false (.bor false false)) (.pair (.own false (.bor false false)) (.bor false false))), .val (.int .i64) (.bor true false), .val (.int .i64) (.bor true false)], [(.bx (.pair (.sl (.int .i64)) (.pair (.sl (.int .i64)) (.unit))), .own false (.pair (.own false (.bor false false)) (.pair (.own false (.bor false false)) (.bor false false))))], point_classes_same_F nf, [0]⟩
theorem point_classes_same_ok : FnOK Try.prog 61 := ⟨Try.f61, codeOf Try.f61, Try.func61, by kernel_rfl, by kernel_rfl⟩
theorem point_classes_same_holds (nf : Nat) : Contract.Holds Try.prog 61 (point_classes_same_C nf) :=
  fn_holds (Φ := point_classes_same_phi nf) (keep := point_classes_same_keep) (n := nf) ⟨tabs.1, tabs.2, (ctx_cons point_classes_join_ok (point_classes_join_holds nf) ctx_nil), mixed, bk_ok bkls rfl⟩ (fn := Try.f61) ⟨Try.func61, by kernel_rfl, by kernel_rfl, by kernel_rfl⟩ (fun x => point_classes_same_eq nf x.1 x.2.1 x.2.2.1)

/-!   codemason point.classes .step -/
def point_classes_step_phi (nf : Nat) : Nat → Option Contract := lookC [(60, point_classes_join_C nf), (61, point_classes_same_C nf)]
def point_classes_step_keep : Nat → List Nat := lookK []
def point_classes_step_p (nf : Nat)  (c : List Int × List Int × Unit) (p : Int × Int × Int × Unit) : Option (Option (List Int × List Int × Unit) × Unit) :=
  bif inb p.snd.fst (List.length c.fst) then
    bif inb p.snd.snd.fst (List.length c.fst) then
      bif p.fst == 1 then
        bif inb (List.getD c.fst (Int.toNat p.snd.fst) 0) (List.length c.snd.fst) then
          bif decide (List.getD c.snd.fst (Int.toNat (List.getD c.fst (Int.toNat p.snd.fst) 0)) 0 < 0) then
            bif inb (List.getD c.fst (Int.toNat p.snd.fst) 0) (List.length c.snd.fst) then
              some ((some (c.fst, List.set c.snd.fst (Int.toNat (List.getD c.fst (Int.toNat p.snd.fst) 0)) (List.getD c.fst (Int.toNat p.snd.snd.fst) 0), c.snd.snd), ()))
            else
              none
          else
            bif inb (List.getD c.fst (Int.toNat p.snd.fst) 0) (List.length c.snd.fst) then
              Option.bind (point_classes_join_f nf c (List.getD c.snd.fst (Int.toNat (List.getD c.fst (Int.toNat p.snd.fst) 0)) 0) (List.getD c.fst (Int.toNat p.snd.snd.fst) 0)) fun r =>
              Option.bind r.fst fun r2 =>
              some ((some r2, ()))
            else
              none
        else
          none
      else
        bif p.fst == 2 then
          Option.bind (point_classes_same_f nf c (List.getD c.fst (Int.toNat p.snd.fst) 0) (List.getD c.fst (Int.toNat p.snd.snd.fst) 0)) fun r3 =>
          Option.bind r3.fst fun r4 =>
          some ((some r4, ()))
        else
          bif p.fst == 3 then
            bif inb (List.getD c.fst (Int.toNat p.snd.snd.fst) 0) (List.length c.snd.fst) then
              bif decide (List.getD c.snd.fst (Int.toNat (List.getD c.fst (Int.toNat p.snd.snd.fst) 0)) 0 ≥ 0) then
                bif inb (List.getD c.fst (Int.toNat p.snd.snd.fst) 0) (List.length c.snd.fst) then
                  Option.bind (point_classes_same_f nf c (List.getD c.fst (Int.toNat p.snd.fst) 0) (List.getD c.snd.fst (Int.toNat (List.getD c.fst (Int.toNat p.snd.snd.fst) 0)) 0)) fun r5 =>
                  Option.bind r5.fst fun r6 =>
                  some ((some r6, ()))
                else
                  none
              else
                some ((some c, ()))
            else
              none
          else
            bif p.fst == 4 then
              bif inb (List.getD c.fst (Int.toNat p.snd.fst) 0) (List.length c.snd.fst) then
                bif decide (List.getD c.snd.fst (Int.toNat (List.getD c.fst (Int.toNat p.snd.fst) 0)) 0 ≥ 0) then
                  bif inb (List.getD c.fst (Int.toNat p.snd.fst) 0) (List.length c.snd.fst) then
                    Option.bind (point_classes_same_f nf c (List.getD c.snd.fst (Int.toNat (List.getD c.fst (Int.toNat p.snd.fst) 0)) 0) (List.getD c.fst (Int.toNat p.snd.snd.fst) 0)) fun r7 =>
                    Option.bind r7.fst fun r8 =>
                    some ((some r8, ()))
                  else
                    none
                else
                  some ((some c, ()))
              else
                none
            else
              some ((some c, ()))
    else
      none
  else
    none
def point_classes_step_f (nf : Nat) (c : List Int × List Int × Unit) (p : Int × Int × Int × Unit) : Option (Option (List Int × List Int × Unit) × Unit) := point_classes_step_p nf  c p
theorem point_classes_step_eq (nf : Nat) (c : List Int × List Int × Unit) (p : Int × Int × Int × Unit) : runF tab (point_classes_step_phi nf) point_classes_step_keep nf [PT.box ((Ty.int IntKind.i64).sl.pair ((Ty.int IntKind.i64).sl.pair Ty.unit)) ((Md.own false (Md.bor false false)).pair ((Md.own false (Md.bor false false)).pair (Md.bor false false))), PT.val ((Ty.int IntKind.i64).pair ((Ty.int IntKind.i64).pair ((Ty.int IntKind.i64).pair Ty.unit))) (Md.bor true false)] [(((Ty.int IntKind.i64).sl.pair ((Ty.int IntKind.i64).sl.pair Ty.unit)).bx, Md.own false ((Md.own false (Md.bor false false)).pair ((Md.own false (Md.bor false false)).pair (Md.bor false false))))] (resL ([0]) Try.f52) (codeOf Try.f52) ⟨c, p, ()⟩ = point_classes_step_f nf c p := by
  have h : runF tab (point_classes_step_phi nf) point_classes_step_keep nf [PT.box ((Ty.int IntKind.i64).sl.pair ((Ty.int IntKind.i64).sl.pair Ty.unit)) ((Md.own false (Md.bor false false)).pair ((Md.own false (Md.bor false false)).pair (Md.bor false false))), PT.val ((Ty.int IntKind.i64).pair ((Ty.int IntKind.i64).pair ((Ty.int IntKind.i64).pair Ty.unit))) (Md.bor true false)] [(((Ty.int IntKind.i64).sl.pair ((Ty.int IntKind.i64).sl.pair Ty.unit)).bx, Md.own false ((Md.own false (Md.bor false false)).pair ((Md.own false (Md.bor false false)).pair (Md.bor false false))))] (resL ([0]) Try.f52) (codeOf Try.f52) ⟨c, p, ()⟩ = point_classes_step_p nf  c p := by kernel_rfl
  exact h
def point_classes_step_F (nf : Nat) (x : denPs [.box (.pair (.sl (.int .i64)) (.pair (.sl (.int .i64)) (.unit))) (.pair (.own false (.bor false false)) (.pair (.own false (.bor false false)) (.bor false false))), .val (.pair (.int .i64) (.pair (.int .i64) (.pair (.int .i64) (.unit)))) (.bor true false)]) : Option (denL [(.bx (.pair (.sl (.int .i64)) (.pair (.sl (.int .i64)) (.unit))), .own false (.pair (.own false (.bor false false)) (.pair (.own false (.bor false false)) (.bor false false))))]) := point_classes_step_f nf x.1 x.2.1
def point_classes_step_C (nf : Nat) : Contract := ⟨[.box (.pair (.sl (.int .i64)) (.pair (.sl (.int .i64)) (.unit))) (.pair (.own false (.bor false false)) (.pair (.own false (.bor false false)) (.bor false false))), .val (.pair (.int .i64) (.pair (.int .i64) (.pair (.int .i64) (.unit)))) (.bor true false)], [(.bx (.pair (.sl (.int .i64)) (.pair (.sl (.int .i64)) (.unit))), .own false (.pair (.own false (.bor false false)) (.pair (.own false (.bor false false)) (.bor false false))))], point_classes_step_F nf, [0]⟩
theorem point_classes_step_ok : FnOK Try.prog 52 := ⟨Try.f52, codeOf Try.f52, Try.func52, by kernel_rfl, by kernel_rfl⟩
theorem point_classes_step_holds (nf : Nat) : Contract.Holds Try.prog 52 (point_classes_step_C nf) :=
  fn_holds (Φ := point_classes_step_phi nf) (keep := point_classes_step_keep) (n := nf) ⟨tabs.1, tabs.2, (ctx_cons point_classes_join_ok (point_classes_join_holds nf) (ctx_cons point_classes_same_ok (point_classes_same_holds nf) ctx_nil)), mixed, bk_ok bkls rfl⟩ (fn := Try.f52) ⟨Try.func52, by kernel_rfl, by kernel_rfl, by kernel_rfl⟩ (fun x => point_classes_step_eq nf x.1 x.2.1)

/-! slices.Equal   int int  -/
def slices_Equal_phi (nf : Nat) : Nat → Option Contract := lookC []
def slices_Equal_keep : Nat → List Nat := lookK [(0, [0, 1, 12, 13])]
def slices_Equal_b0 (nf : Nat) (s1 : List Int) (s2 : List Int) (g0 : Int → Option (Bool × Unit)) (t13 : Int) : Option (Bool × Unit) :=
  bif decide (t13 < (↑s1.length : Int)) then
    bif inb t13 s1.length then
      bif inb t13 s2.length then
        bif s1.getD t13.toNat 0 != s2.getD t13.toNat 0 then
          some ((false, ()))
        else
          g0 (IntKind.i64.wrap (t13 + 1))
      else
        none
    else
      none
  else
    some ((true, ()))
def slices_Equal_p (nf : Nat) (l0 : List Int → List Int → Int → Option (Bool × Unit)) (s1 : List Int) (s2 : List Int) : Option (Bool × Unit) :=
  bif (↑s1.length : Int) != (↑s2.length : Int) then
    some ((false, ()))
  else
    l0 s1 s2 0
def slices_Equal_l0 (nf : Nat) (s1 : List Int) (s2 : List Int) : Nat → Int → Option (Bool × Unit)
  | 0, _ => none
  | fu + 1, t13 => slices_Equal_b0 nf  s1 s2  (slices_Equal_l0 nf s1 s2  fu) t13
def slices_Equal_f (nf : Nat) (s1 : List Int) (s2 : List Int) : Option (Bool × Unit) := slices_Equal_p nf (fun p0 p1 v0 => slices_Equal_l0 nf p0 p1 nf v0) s1 s2
noncomputable def slices_Equal_L0 (nf : Nat) : LC (Bool × Unit) := theL (findL tab (slices_Equal_phi nf) (fun _ F => iter nf F) slices_Equal_keep 0 0 (codeOf Try.f53) (fin tab [(Ty.bool, Md.bor false true)] (resL ([]) Try.f53)) (fun _ _ => none) (fin tab [(Ty.bool, Md.bor false true)] (resL ([]) Try.f53)))
def slices_Equal_m0 (s1 : List Int) (s2 : List Int) (t13 : Int) : St := ⟨fresh, [(0, AV.v (Ty.int IntKind.i64).sl (Md.bor true false) s1), (1, AV.v (Ty.int IntKind.i64).sl (Md.bor true false) s2), (12, AV.v (Ty.int IntKind.i64) (Md.bor false true) (↑s1.length : Int)), (13, AV.v (Ty.int IntKind.i64) (Md.bor false true) t13)]⟩
theorem slices_Equal_h0 (nf : Nat)  (s1 : List Int) (s2 : List Int) (fu : Nat) (t13 : Int) : iter (fu + 1) (LC.F tab (slices_Equal_phi nf) (fun _ F => iter nf F) slices_Equal_keep 0 (slices_Equal_L0 nf )) (slices_Equal_m0 s1 s2 t13) = slices_Equal_b0 nf  s1 s2  (fun t13 => iter fu (LC.F tab (slices_Equal_phi nf) (fun _ F => iter nf F) slices_Equal_keep 0 (slices_Equal_L0 nf )) (slices_Equal_m0 s1 s2 t13)) t13 := by kernel_rfl
theorem slices_Equal_e0 (nf : Nat)  (s1 : List Int) (s2 : List Int) : ∀ (fu : Nat) (t13 : Int), iter fu (LC.F tab (slices_Equal_phi nf) (fun _ F => iter nf F) slices_Equal_keep 0 (slices_Equal_L0 nf )) (slices_Equal_m0 s1 s2 t13) = slices_Equal_l0 nf s1 s2  fu t13 := by
  intro fu
  induction fu with
  | zero => intros; rfl
  | succ fu ih =>
    intro t13
    rw [slices_Equal_h0 nf  s1 s2 fu t13]
    simp only [ih]
    rfl
theorem slices_Equal_eq (nf : Nat) (s1 : List Int) (s2 : List Int) : runF tab (slices_Equal_phi nf) slices_Equal_keep nf [PT.val (Ty.int IntKind.i64).sl (Md.bor true false), PT.val (Ty.int IntKind.i64).sl (Md.bor true false)] [(Ty.bool, Md.bor false true)] (resL ([]) Try.f53) (codeOf Try.f53) ⟨s1, s2, ()⟩ = slices_Equal_f nf s1 s2 := by
  have h : runF tab (slices_Equal_phi nf) slices_Equal_keep nf [PT.val (Ty.int IntKind.i64).sl (Md.bor true false), PT.val (Ty.int IntKind.i64).sl (Md.bor true false)] [(Ty.bool, Md.bor false true)] (resL ([]) Try.f53) (codeOf Try.f53) ⟨s1, s2, ()⟩ = slices_Equal_p nf (fun p0 p1 v0 => iter nf (LC.F tab (slices_Equal_phi nf) (fun _ F => iter nf F) slices_Equal_keep 0 (slices_Equal_L0 nf)) (slices_Equal_m0 p0 p1 v0)) s1 s2 := by kernel_rfl
  rw [h]
  simp only [slices_Equal_e0]
  rfl
def slices_Equal_F (nf : Nat) (x : denPs [.val (.sl (.int .i64)) (.bor true false), .val (.sl (.int .i64)) (.bor true false)]) : Option (denL [(.bool, .bor false true)]) := slices_Equal_f nf x.1 x.2.1
def slices_Equal_C (nf : Nat) : Contract := ⟨[.val (.sl (.int .i64)) (.bor true false), .val (.sl (.int .i64)) (.bor true false)], [(.bool, .bor false true)], slices_Equal_F nf, []⟩
theorem slices_Equal_ok : FnOK Try.prog 53 := ⟨Try.f53, codeOf Try.f53, Try.func53, by kernel_rfl, by kernel_rfl⟩
theorem slices_Equal_holds (nf : Nat) : Contract.Holds Try.prog 53 (slices_Equal_C nf) :=
  fn_holds (Φ := slices_Equal_phi nf) (keep := slices_Equal_keep) (n := nf) ⟨tabs.1, tabs.2, ctx_nil, mixed, bk_ok bkls rfl⟩ (fn := Try.f53) ⟨Try.func53, by kernel_rfl, by kernel_rfl, by kernel_rfl⟩ (fun x => slices_Equal_eq nf x.1 x.2.1)

/-! codemason point.Joined -/
def point_Joined_phi (nf : Nat) : Nat → Option Contract := lookC [(46, point_wrong_C nf), (50, slices_Repeat_C nf), (51, slices_Clone_C nf), (52, point_classes_step_C nf), (53, slices_Equal_C nf)]
def point_Joined_keep : Nat → List Nat := lookK [(8, [7, 14, 15, 16, 28, 29, 83, 84, 85, 86, 87, 88, 89, 94, 95, 96, 97, 98, 99]), (6, [7, 14, 28, 29, 83, 84, 85, 86, 87, 88, 89]), (4, [0, 1, 7, 10, 11, 28, 29, 50, 55, 56, 57, 58]), (2, [0, 1, 7, 9, 28, 29]), (0, [0, 1, 7, 28, 29, 30, 31])]
def point_Joined_b0 (nf : Nat) (l2 : Int → List (Int × Int × Int × Unit) → Bool → List Int × List Int × Unit → Option (List Int × Int × Unit)) (vars : Int) (l' : List (Int × Int × Int × Unit)) (g0 : List Int × List Int × Unit → Int → Option (List Int × Int × Unit)) (t29 : List Int × List Int × Unit) (t31 : Int) : Option (List Int × Int × Unit) :=
  bif decide (t31 < vars) then
    bif ![t31].isEmpty && (List.length t29.fst + [t31].length).ble lim then
      g0 ((t29.fst ++ [t31], t29.snd)) (IntKind.i64.wrap (t31 + 1))
    else
      none
  else
    l2 vars l' true t29
def point_Joined_b2 (nf : Nat) (l4 : Int → List (Int × Int × Int × Unit) → List Int → List Int → List Int × List Int × Unit → Int → Option (List Int × Int × Unit)) (l6 : List Int × List Int × Unit → List Int → List Int × List Int × Unit → Int → Option (List Int × Int × Unit)) (vars : Int) (l' : List (Int × Int × Int × Unit)) (g2 : Bool → List Int × List Int × Unit → Option (List Int × Int × Unit)) (more : Bool) (t292 : List Int × List Int × Unit) : Option (List Int × Int × Unit) :=
  bif more then
    Option.bind (slices_Clone_f nf t292.fst) fun r3 =>
    Option.bind (slices_Clone_f nf t292.snd.fst) fun r4 =>
    l4 vars l' r3.fst r4.fst t292 0
  else
    bif decide (0 ≤ vars) && decide (vars ≤ vars) && decide (vars ≤ (↑lim : Int)) then
      l6 t292 (List.replicate vars.toNat 0) t292 0
    else
      none
def point_Joined_b4 (nf : Nat) (vars : Int) (l' : List (Int × Int × Int × Unit)) (g2 : Bool → List Int × List Int × Unit → Option (List Int × Int × Unit)) (g4 : List Int → List Int → List Int × List Int × Unit → Int → Option (List Int × Int × Unit)) (of : List Int) (to' : List Int) (t293 : List Int × List Int × Unit) (t58 : Int) : Option (List Int × Int × Unit) :=
  bif decide (t58 < (↑l'.length : Int)) then
    bif inb t58 l'.length then
      Option.bind (point_classes_step_f nf t293 (l'.getD t58.toNat (0, 0, 0, ()))) fun r5 =>
      Option.bind r5.fst fun r6 =>
      g4 of to' r6 (IntKind.i64.wrap (t58 + 1))
    else
      none
  else
    Option.bind (slices_Equal_f nf of t293.fst) fun r7 =>
    bif !r7.fst then
      g2 true t293
    else
      Option.bind (slices_Equal_f nf to' t293.snd.fst) fun r8 =>
      g2 (!r8.fst) t293
def point_Joined_b6 (nf : Nat) (l8 : Int → List Int × List Int × Unit → List Int × List Int × Unit → List Int → List Int × List Int × Unit → Int → Option (List Int × Int × Unit)) (t292 : List Int × List Int × Unit) (g6 : List Int → List Int × List Int × Unit → Int → Option (List Int × Int × Unit)) (out : List Int) (t294 : List Int × List Int × Unit) (t89 : Int) : Option (List Int × Int × Unit) :=
  bif decide (t89 < (↑(List.length t292.fst) : Int)) then
    bif inb t89 (List.length t294.fst) then
      l8 t89 t294 t292 out t294 0
    else
      none
  else
    some ((out, 0, ()))
def point_Joined_b8 (nf : Nat) (t89 : Int) (t294 : List Int × List Int × Unit) (t292 : List Int × List Int × Unit) (g6 : List Int → List Int × List Int × Unit → Int → Option (List Int × Int × Unit)) (g8 : List Int → List Int × List Int × Unit → Int → Option (List Int × Int × Unit)) (out2 : List Int) (t295 : List Int × List Int × Unit) (t99 : Int) : Option (List Int × Int × Unit) :=
  bif decide (t99 < (↑(List.length t294.fst) : Int)) then
    bif inb t99 (List.length t295.fst) then
      bif inb (List.getD t294.fst t89.toNat 0) (List.length t295.snd.fst) then
        bif decide (List.getD t295.snd.fst (Int.toNat (List.getD t294.fst t89.toNat 0)) 0 ≥ 0) then
          bif inb (List.getD t294.fst t89.toNat 0) (List.length t295.snd.fst) then
            bif List.getD t295.fst t99.toNat 0 == List.getD t295.snd.fst (Int.toNat (List.getD t294.fst t89.toNat 0)) 0 then
              bif inb t89 out2.length then
                bif decide (0 ≤ t99) then
                  bif inb t89 out2.length then
                    g8 (out2.set t89.toNat (IntKind.u32.wrap (↑(BitVec.ofInt IntKind.u32.bits (out2.getD t89.toNat 0) ||| BitVec.ofInt IntKind.u32.bits (shlI IntKind.u32 1 t99)).toNat : Int))) t295 (IntKind.i64.wrap (t99 + 1))
                  else
                    none
                else
                  none
              else
                none
            else
              g8 out2 t295 (IntKind.i64.wrap (t99 + 1))
          else
            none
        else
          g8 out2 t295 (IntKind.i64.wrap (t99 + 1))
      else
        none
    else
      none
  else
    g6 out2 t295 (IntKind.i64.wrap (t89 + 1))
def point_Joined_p (nf : Nat) (l0 : Int → List (Int × Int × Int × Unit) → List Int × List Int × Unit → Int → Option (List Int × Int × Unit)) (vars : Int) (l' : List (Int × Int × Int × Unit)) : Option (List Int × Int × Unit) :=
  Option.bind (point_wrong_f nf vars l' ([])) fun r =>
  bif r.fst != 0 then
    some (([], r.fst, ()))
  else
    Option.bind (slices_Repeat_f nf ([-1]) vars) fun r2 =>
    l0 vars l' (([], r2.fst, ())) 0
def point_Joined_l8 (nf : Nat) (t89 : Int) (t294 : List Int × List Int × Unit) (t292 : List Int × List Int × Unit) (g6 : List Int → List Int × List Int × Unit → Int → Option (List Int × Int × Unit)) : Nat → List Int → List Int × List Int × Unit → Int → Option (List Int × Int × Unit)
  | 0, _, _, _ => none
  | fu + 1, out2, t295, t99 => point_Joined_b8 nf  t89 t294 t292 g6 (point_Joined_l8 nf t89 t294 t292 g6 fu) out2 t295 t99
def point_Joined_l6 (nf : Nat) (t292 : List Int × List Int × Unit) : Nat → List Int → List Int × List Int × Unit → Int → Option (List Int × Int × Unit)
  | 0, _, _, _ => none
  | fu + 1, out, t294, t89 => point_Joined_b6 nf (fun p0 p1 _ v0 v1 v2 => point_Joined_l8 nf p0 p1 t292 (fun out t294 t89 => point_Joined_l6 nf t292  fu out t294 t89) nf v0 v1 v2) t292  (point_Joined_l6 nf t292  fu) out t294 t89
def point_Joined_l4 (nf : Nat) (vars : Int) (l' : List (Int × Int × Int × Unit)) (g2 : Bool → List Int × List Int × Unit → Option (List Int × Int × Unit)) : Nat → List Int → List Int → List Int × List Int × Unit → Int → Option (List Int × Int × Unit)
  | 0, _, _, _, _ => none
  | fu + 1, of, to', t293, t58 => point_Joined_b4 nf  vars l' g2 (point_Joined_l4 nf vars l' g2 fu) of to' t293 t58
def point_Joined_l2 (nf : Nat) (vars : Int) (l' : List (Int × Int × Int × Unit)) : Nat → Bool → List Int × List Int × Unit → Option (List Int × Int × Unit)
  | 0, _, _ => none
  | fu + 1, more, t292 => point_Joined_b2 nf (fun _ _ v0 v1 v2 v3 => point_Joined_l4 nf vars l' (fun more t292 => point_Joined_l2 nf vars l'  fu more t292) nf v0 v1 v2 v3) (fun p0 v0 v1 v2 => point_Joined_l6 nf p0  nf v0 v1 v2) vars l'  (point_Joined_l2 nf vars l'  fu) more t292
def point_Joined_l0 (nf : Nat) (vars : Int) (l' : List (Int × Int × Int × Unit)) : Nat → List Int × List Int × Unit → Int → Option (List Int × Int × Unit)
  | 0, _, _ => none
  | fu + 1, t29, t31 => point_Joined_b0 nf (fun _ _ v0 v1 => point_Joined_l2 nf vars l'  nf v0 v1) vars l'  (point_Joined_l0 nf vars l'  fu) t29 t31
def point_Joined_f (nf : Nat) (vars : Int) (l' : List (Int × Int × Int × Unit)) : Option (List Int × Int × Unit) := point_Joined_p nf (fun p0 p1 v0 v1 => point_Joined_l0 nf p0 p1 nf v0 v1) vars l'
noncomputable def point_Joined_L0 (nf : Nat) : LC (List Int × Int × Unit) := theL (findL tab (point_Joined_phi nf) (fun _ F => iter nf F) point_Joined_keep 0 0 (codeOf Try.f31) (fin tab [((Ty.int IntKind.u32).sl, Md.own false (Md.bor false false)), (Ty.int IntKind.i64, Md.bor false true)] (resL ([]) Try.f31)) (fun _ _ => none) (fin tab [((Ty.int IntKind.u32).sl, Md.own false (Md.bor false false)), (Ty.int IntKind.i64, Md.bor false true)] (resL ([]) Try.f31)))
def point_Joined_m0 (vars : Int) (l' : List (Int × Int × Int × Unit)) (t29 : List Int × List Int × Unit) (t31 : Int) : St := ⟨fresh, [(0, AV.v (Ty.int IntKind.i64) (Md.bor false true) vars), (1, AV.v ((Ty.int IntKind.i64).pair ((Ty.int IntKind.i64).pair ((Ty.int IntKind.i64).pair Ty.unit))).sl (Md.bor true false) l'), (7, AV.pl 29 29 [Stp.dr]), (28, AV.dead), (29, AV.box 29 500029 ((Ty.int IntKind.i64).sl.pair ((Ty.int IntKind.i64).sl.pair Ty.unit)) ((Md.own false (Md.bor false false)).pair ((Md.own false (Md.bor false false)).pair (Md.bor false false))) t29), (30, AV.v (Ty.int IntKind.i64) (Md.bor false true) vars), (31, AV.v (Ty.int IntKind.i64) (Md.bor false true) t31)]⟩
noncomputable def point_Joined_L2 (nf : Nat) : LC (List Int × Int × Unit) := theL (findL tab (point_Joined_phi nf) (fun _ F => iter nf F) point_Joined_keep 2 0 (codeOf Try.f31) (fin tab [((Ty.int IntKind.u32).sl, Md.own false (Md.bor false false)), (Ty.int IntKind.i64, Md.bor false true)] (resL ([]) Try.f31)) (fun _ _ => none) (fin tab [((Ty.int IntKind.u32).sl, Md.own false (Md.bor false false)), (Ty.int IntKind.i64, Md.bor false true)] (resL ([]) Try.f31)))
def point_Joined_m2 (vars : Int) (l' : List (Int × Int × Int × Unit)) (more : Bool) (t292 : List Int × List Int × Unit) : St := ⟨fresh, [(0, AV.v (Ty.int IntKind.i64) (Md.bor false true) vars), (1, AV.v ((Ty.int IntKind.i64).pair ((Ty.int IntKind.i64).pair ((Ty.int IntKind.i64).pair Ty.unit))).sl (Md.bor true false) l'), (7, AV.pl 29 29 [Stp.dr]), (9, AV.v Ty.bool (Md.bor false true) more), (28, AV.dead), (29, AV.box 29 500029 ((Ty.int IntKind.i64).sl.pair ((Ty.int IntKind.i64).sl.pair Ty.unit)) ((Md.own false (Md.bor false false)).pair ((Md.own false (Md.bor false false)).pair (Md.bor false false))) t292)]⟩
noncomputable def point_Joined_L4 (nf : Nat) (G2 : St → Option (List Int × Int × Unit)) : LC (List Int × Int × Unit) := theL (findL tab (point_Joined_phi nf) (fun _ F => iter nf F) point_Joined_keep 4 2 (point_Joined_L2 nf ).c (fun st => norm (point_Joined_keep 2) st G2) (point_Joined_L2 nf ).Kx (point_Joined_L2 nf ).Kr)
def point_Joined_m4 (vars : Int) (l' : List (Int × Int × Int × Unit)) (of : List Int) (to' : List Int) (t293 : List Int × List Int × Unit) (t58 : Int) : St := ⟨fresh, [(0, AV.v (Ty.int IntKind.i64) (Md.bor false true) vars), (1, AV.v ((Ty.int IntKind.i64).pair ((Ty.int IntKind.i64).pair ((Ty.int IntKind.i64).pair Ty.unit))).sl (Md.bor true false) l'), (7, AV.pl 29 29 [Stp.dr]), (10, AV.ow 500010 (Ty.int IntKind.i64).sl (Md.own false (Md.bor false false)) of), (11, AV.ow 500011 (Ty.int IntKind.i64).sl (Md.own false (Md.bor false false)) to'), (28, AV.dead), (29, AV.box 29 500029 ((Ty.int IntKind.i64).sl.pair ((Ty.int IntKind.i64).sl.pair Ty.unit)) ((Md.own false (Md.bor false false)).pair ((Md.own false (Md.bor false false)).pair (Md.bor false false))) t293), (50, AV.dead), (55, AV.dead), (56, AV.v ((Ty.int IntKind.i64).pair ((Ty.int IntKind.i64).pair ((Ty.int IntKind.i64).pair Ty.unit))).sl (Md.bor true false) l'), (57, AV.v (Ty.int IntKind.i64) (Md.bor false true) (↑l'.length : Int)), (58, AV.v (Ty.int IntKind.i64) (Md.bor false true) t58)]⟩
noncomputable def point_Joined_L6 (nf : Nat) : LC (List Int × Int × Unit) := theL (findL tab (point_Joined_phi nf) (fun _ F => iter nf F) point_Joined_keep 6 0 (codeOf Try.f31) (fin tab [((Ty.int IntKind.u32).sl, Md.own false (Md.bor false false)), (Ty.int IntKind.i64, Md.bor false true)] (resL ([]) Try.f31)) (fun _ _ => none) (fin tab [((Ty.int IntKind.u32).sl, Md.own false (Md.bor false false)), (Ty.int IntKind.i64, Md.bor false true)] (resL ([]) Try.f31)))
def point_Joined_m6 (t292 : List Int × List Int × Unit) (out : List Int) (t294 : List Int × List Int × Unit) (t89 : Int) : St := ⟨fresh, [(7, AV.pl 29 29 [Stp.dr]), (14, AV.ow 500014 (Ty.int IntKind.u32).sl (Md.own false (Md.bor false false)) out), (28, AV.dead), (29, AV.box 29 500029 ((Ty.int IntKind.i64).sl.pair ((Ty.int IntKind.i64).sl.pair Ty.unit)) ((Md.own false (Md.bor false false)).pair ((Md.own false (Md.bor false false)).pair (Md.bor false false))) t294), (83, AV.dead), (84, AV.pl 29 29 [Stp.dr]), (85, AV.pl 29 29 [Stp.dr]), (86, AV.pl 29 29 [Stp.dr, Stp.fld 0]), (87, AV.al 29 500029 [Stp.dr, Stp.fld 0]), (88, AV.v (Ty.int IntKind.i64) (Md.bor false true) (↑(List.length t292.fst) : Int)), (89, AV.v (Ty.int IntKind.i64) (Md.bor false true) t89)]⟩
noncomputable def point_Joined_L8 (nf : Nat) (G6 : St → Option (List Int × Int × Unit)) : LC (List Int × Int × Unit) := theL (findL tab (point_Joined_phi nf) (fun _ F => iter nf F) point_Joined_keep 8 6 (point_Joined_L6 nf ).c (fun st => norm (point_Joined_keep 6) st G6) (point_Joined_L6 nf ).Kx (point_Joined_L6 nf ).Kr)
def point_Joined_m8 (t89 : Int) (t294 : List Int × List Int × Unit) (t292 : List Int × List Int × Unit) (out2 : List Int) (t295 : List Int × List Int × Unit) (t99 : Int) : St := ⟨fresh, [(7, AV.pl 29 29 [Stp.dr]), (14, AV.ow 500014 (Ty.int IntKind.u32).sl (Md.own false (Md.bor false false)) out2), (15, AV.v (Ty.int IntKind.i64) (Md.bor false true) t89), (16, AV.v (Ty.int IntKind.i64) (Md.bor false true) (List.getD t294.fst t89.toNat 0)), (28, AV.dead), (29, AV.box 29 500029 ((Ty.int IntKind.i64).sl.pair ((Ty.int IntKind.i64).sl.pair Ty.unit)) ((Md.own false (Md.bor false false)).pair ((Md.own false (Md.bor false false)).pair (Md.bor false false))) t295), (83, AV.dead), (84, AV.pl 29 29 [Stp.dr]), (85, AV.pl 29 29 [Stp.dr]), (86, AV.pl 29 29 [Stp.dr, Stp.fld 0]), (87, AV.al 29 500029 [Stp.dr, Stp.fld 0]), (88, AV.v (Ty.int IntKind.i64) (Md.bor false true) (↑(List.length t292.fst) : Int)), (89, AV.v (Ty.int IntKind.i64) (Md.bor false true) t89), (94, AV.pl 29 29 [Stp.dr]), (95, AV.pl 29 29 [Stp.dr]), (96, AV.pl 29 29 [Stp.dr, Stp.fld 0]), (97, AV.al 29 500029 [Stp.dr, Stp.fld 0]), (98, AV.v (Ty.int IntKind.i64) (Md.bor false true) (↑(List.length t294.fst) : Int)), (99, AV.v (Ty.int IntKind.i64) (Md.bor false true) t99)]⟩
theorem point_Joined_h8 (nf : Nat) (G6 : St → Option (List Int × Int × Unit)) (t89 : Int) (t294 : List Int × List Int × Unit) (t292 : List Int × List Int × Unit) (fu : Nat) (out2 : List Int) (t295 : List Int × List Int × Unit) (t99 : Int) : iter (fu + 1) (LC.F tab (point_Joined_phi nf) (fun _ F => iter nf F) point_Joined_keep 8 (point_Joined_L8 nf G6)) (point_Joined_m8 t89 t294 t292 out2 t295 t99) = point_Joined_b8 nf  t89 t294 t292 (fun out t294 t89 => G6 (point_Joined_m6 t292 out t294 t89)) (fun out2 t295 t99 => iter fu (LC.F tab (point_Joined_phi nf) (fun _ F => iter nf F) point_Joined_keep 8 (point_Joined_L8 nf G6)) (point_Joined_m8 t89 t294 t292 out2 t295 t99)) out2 t295 t99 := by kernel_rfl
theorem point_Joined_e8 (nf : Nat) (G6 : St → Option (List Int × Int × Unit)) (t89 : Int) (t294 : List Int × List Int × Unit) (t292 : List Int × List Int × Unit) : ∀ (fu : Nat) (out2 : List Int) (t295 : List Int × List Int × Unit) (t99 : Int), iter fu (LC.F tab (point_Joined_phi nf) (fun _ F => iter nf F) point_Joined_keep 8 (point_Joined_L8 nf G6)) (point_Joined_m8 t89 t294 t292 out2 t295 t99) = point_Joined_l8 nf t89 t294 t292 (fun out t294 t89 => G6 (point_Joined_m6 t292 out t294 t89)) fu out2 t295 t99 := by
  intro fu
  induction fu with
  | zero => intros; rfl
  | succ fu ih =>
    intro out2 t295 t99
    rw [point_Joined_h8 nf G6 t89 t294 t292 fu out2 t295 t99]
    simp only [ih]
    rfl
theorem point_Joined_h6 (nf : Nat)  (t292 : List Int × List Int × Unit) (fu : Nat) (out : List Int) (t294 : List Int × List Int × Unit) (t89 : Int) : iter (fu + 1) (LC.F tab (point_Joined_phi nf) (fun _ F => iter nf F) point_Joined_keep 6 (point_Joined_L6 nf )) (point_Joined_m6 t292 out t294 t89) = point_Joined_b6 nf (fun p0 p1 _ v0 v1 v2 => iter nf (LC.F tab (point_Joined_phi nf) (fun _ F => iter nf F) point_Joined_keep 8 (point_Joined_L8 nf (iter fu (LC.F tab (point_Joined_phi nf) (fun _ F => iter nf F) point_Joined_keep 6 (point_Joined_L6 nf ))))) (point_Joined_m8 p0 p1 t292 v0 v1 v2)) t292  (fun out t294 t89 => iter fu (LC.F tab (point_Joined_phi nf) (fun _ F => iter nf F) point_Joined_keep 6 (point_Joined_L6 nf )) (point_Joined_m6 t292 out t294 t89)) out t294 t89 := by kernel_rfl
theorem point_Joined_e6 (nf : Nat)  (t292 : List Int × List Int × Unit) : ∀ (fu : Nat) (out : List Int) (t294 : List Int × List Int × Unit) (t89 : Int), iter fu (LC.F tab (point_Joined_phi nf) (fun _ F => iter nf F) point_Joined_keep 6 (point_Joined_L6 nf )) (point_Joined_m6 t292 out t294 t89) = point_Joined_l6 nf t292  fu out t294 t89 := by
  intro fu
  induction fu with
  | zero => intros; rfl
  | succ fu ih =>
    intro out t294 t89
    rw [point_Joined_h6 nf  t292 fu out t294 t89]
    simp only [ih, point_Joined_e8]
    rfl
theorem point_Joined_h4 (nf : Nat) (G2 : St → Option (List Int × Int × Unit)) (vars : Int) (l' : List (Int × Int × Int × Unit)) (fu : Nat) (of : List Int) (to' : List Int) (t293 : List Int × List Int × Unit) (t58 : Int) : iter (fu + 1) (LC.F tab (point_Joined_phi nf) (fun _ F => iter nf F) point_Joined_keep 4 (point_Joined_L4 nf G2)) (point_Joined_m4 vars l' of to' t293 t58) = point_Joined_b4 nf  vars l' (fun more t292 => G2 (point_Joined_m2 vars l' more t292)) (fun of to' t293 t58 => iter fu (LC.F tab (point_Joined_phi nf) (fun _ F => iter nf F) point_Joined_keep 4 (point_Joined_L4 nf G2)) (point_Joined_m4 vars l' of to' t293 t58)) of to' t293 t58 := by kernel_rfl
theorem point_Joined_e4 (nf : Nat) (G2 : St → Option (List Int × Int × Unit)) (vars : Int) (l' : List (Int × Int × Int × Unit)) : ∀ (fu : Nat) (of : List Int) (to' : List Int) (t293 : List Int × List Int × Unit) (t58 : Int), iter fu (LC.F tab (point_Joined_phi nf) (fun _ F => iter nf F) point_Joined_keep 4 (point_Joined_L4 nf G2)) (point_Joined_m4 vars l' of to' t293 t58) = point_Joined_l4 nf vars l' (fun more t292 => G2 (point_Joined_m2 vars l' more t292)) fu of to' t293 t58 := by
  intro fu
  induction fu with
  | zero => intros; rfl
  | succ fu ih =>
    intro of to' t293 t58
    rw [point_Joined_h4 nf G2 vars l' fu of to' t293 t58]
    simp only [ih]
    rfl
theorem point_Joined_h2 (nf : Nat)  (vars : Int) (l' : List (Int × Int × Int × Unit)) (fu : Nat) (more : Bool) (t292 : List Int × List Int × Unit) : iter (fu + 1) (LC.F tab (point_Joined_phi nf) (fun _ F => iter nf F) point_Joined_keep 2 (point_Joined_L2 nf )) (point_Joined_m2 vars l' more t292) = point_Joined_b2 nf (fun _ _ v0 v1 v2 v3 => iter nf (LC.F tab (point_Joined_phi nf) (fun _ F => iter nf F) point_Joined_keep 4 (point_Joined_L4 nf (iter fu (LC.F tab (point_Joined_phi nf) (fun _ F => iter nf F) point_Joined_keep 2 (point_Joined_L2 nf ))))) (point_Joined_m4 vars l' v0 v1 v2 v3)) (fun p0 v0 v1 v2 => iter nf (LC.F tab (point_Joined_phi nf) (fun _ F => iter nf F) point_Joined_keep 6 (point_Joined_L6 nf )) (point_Joined_m6 p0 v0 v1 v2)) vars l'  (fun more t292 => iter fu (LC.F tab (point_Joined_phi nf) (fun _ F => iter nf F) point_Joined_keep 2 (point_Joined_L2 nf )) (point_Joined_m2 vars l' more t292)) more t292 := by kernel_rfl
theorem point_Joined_e2 (nf : Nat)  (vars : Int) (l' : List (Int × Int × Int × Unit)) : ∀ (fu : Nat) (more : Bool) (t292 : List Int × List Int × Unit), iter fu (LC.F tab (point_Joined_phi nf) (fun _ F => iter nf F) point_Joined_keep 2 (point_Joined_L2 nf )) (point_Joined_m2 vars l' more t292) = point_Joined_l2 nf vars l'  fu more t292 := by
  intro fu
  induction fu with
  | zero => intros; rfl
  | succ fu ih =>
    intro more t292
    rw [point_Joined_h2 nf  vars l' fu more t292]
    simp only [ih, point_Joined_e4, point_Joined_e6]
    rfl
theorem point_Joined_h0 (nf : Nat)  (vars : Int) (l' : List (Int × Int × Int × Unit)) (fu : Nat) (t29 : List Int × List Int × Unit) (t31 : Int) : iter (fu + 1) (LC.F tab (point_Joined_phi nf) (fun _ F => iter nf F) point_Joined_keep 0 (point_Joined_L0 nf )) (point_Joined_m0 vars l' t29 t31) = point_Joined_b0 nf (fun _ _ v0 v1 => iter nf (LC.F tab (point_Joined_phi nf) (fun _ F => iter nf F) point_Joined_keep 2 (point_Joined_L2 nf )) (point_Joined_m2 vars l' v0 v1)) vars l'  (fun t29 t31 => iter fu (LC.F tab (point_Joined_phi nf) (fun _ F => iter nf F) point_Joined_keep 0 (point_Joined_L0 nf )) (point_Joined_m0 vars l' t29 t31)) t29 t31 := by kernel_rfl
theorem point_Joined_e0 (nf : Nat)  (vars : Int) (l' : List (Int × Int × Int × Unit)) : ∀ (fu : Nat) (t29 : List Int × List Int × Unit) (t31 : Int), iter fu (LC.F tab (point_Joined_phi nf) (fun _ F => iter nf F) point_Joined_keep 0 (point_Joined_L0 nf )) (point_Joined_m0 vars l' t29 t31) = point_Joined_l0 nf vars l'  fu t29 t31 := by
  intro fu
  induction fu with
  | zero => intros; rfl
  | succ fu ih =>
    intro t29 t31
    rw [point_Joined_h0 nf  vars l' fu t29 t31]
    simp only [ih, point_Joined_e2]
    rfl
theorem point_Joined_eq (nf : Nat) (vars : Int) (l' : List (Int × Int × Int × Unit)) : runF tab (point_Joined_phi nf) point_Joined_keep nf [PT.val (Ty.int IntKind.i64) (Md.bor true false), PT.val ((Ty.int IntKind.i64).pair ((Ty.int IntKind.i64).pair ((Ty.int IntKind.i64).pair Ty.unit))).sl (Md.bor true false)] [((Ty.int IntKind.u32).sl, Md.own false (Md.bor false false)), (Ty.int IntKind.i64, Md.bor false true)] (resL ([]) Try.f31) (codeOf Try.f31) ⟨vars, l', ()⟩ = point_Joined_f nf vars l' := by
  have h : runF tab (point_Joined_phi nf) point_Joined_keep nf [PT.val (Ty.int IntKind.i64) (Md.bor true false), PT.val ((Ty.int IntKind.i64).pair ((Ty.int IntKind.i64).pair ((Ty.int IntKind.i64).pair Ty.unit))).sl (Md.bor true false)] [((Ty.int IntKind.u32).sl, Md.own false (Md.bor false false)), (Ty.int IntKind.i64, Md.bor false true)] (resL ([]) Try.f31) (codeOf Try.f31) ⟨vars, l', ()⟩ = point_Joined_p nf (fun p0 p1 v0 v1 => iter nf (LC.F tab (point_Joined_phi nf) (fun _ F => iter nf F) point_Joined_keep 0 (point_Joined_L0 nf)) (point_Joined_m0 p0 p1 v0 v1)) vars l' := by kernel_rfl
  rw [h]
  simp only [point_Joined_e0]
  rfl
def point_Joined_F (nf : Nat) (x : denPs [.val (.int .i64) (.bor true false), .val (.sl (.pair (.int .i64) (.pair (.int .i64) (.pair (.int .i64) (.unit))))) (.bor true false)]) : Option (denL [(.sl (.int .u32), .own false (.bor false false)), (.int .i64, .bor false true)]) := point_Joined_f nf x.1 x.2.1
def point_Joined_C (nf : Nat) : Contract := ⟨[.val (.int .i64) (.bor true false), .val (.sl (.pair (.int .i64) (.pair (.int .i64) (.pair (.int .i64) (.unit))))) (.bor true false)], [(.sl (.int .u32), .own false (.bor false false)), (.int .i64, .bor false true)], point_Joined_F nf, []⟩
theorem point_Joined_ok : FnOK Try.prog 31 := ⟨Try.f31, codeOf Try.f31, Try.func31, by kernel_rfl, by kernel_rfl⟩
theorem point_Joined_holds (nf : Nat) : Contract.Holds Try.prog 31 (point_Joined_C nf) :=
  fn_holds (Φ := point_Joined_phi nf) (keep := point_Joined_keep) (n := nf) ⟨tabs.1, tabs.2, (ctx_cons point_wrong_ok (point_wrong_holds nf) (ctx_cons slices_Repeat_ok (slices_Repeat_holds nf) (ctx_cons slices_Clone_ok (slices_Clone_holds nf) (ctx_cons point_classes_step_ok (point_classes_step_holds nf) (ctx_cons slices_Equal_ok (slices_Equal_holds nf) ctx_nil))))), mixed, bk_ok bkls rfl⟩ (fn := Try.f31) ⟨Try.func31, by kernel_rfl, by kernel_rfl, by kernel_rfl⟩ (fun x => point_Joined_eq nf x.1 x.2.1)

/-! codemason codemasonref.Set -/
def ref_Set_phi (nf : Nat) : Nat → Option Contract := lookC []
def ref_Set_keep : Nat → List Nat := lookK [(0, [0, 3, 6, 7, 8])]
def ref_Set_b0 (nf : Nat) (l' : List Int) (g0 : Int → Int → Option (Int × Unit)) (s : Int) (t8 : Int) : Option (Int × Unit) :=
  bif decide (t8 < (↑l'.length : Int)) then
    bif inb t8 l'.length then
      bif decide (0 ≤ IntKind.u64.wrap (l'.getD t8.toNat 0)) then
        g0 (IntKind.u32.wrap (↑(BitVec.ofInt IntKind.u32.bits s ||| BitVec.ofInt IntKind.u32.bits (shlI IntKind.u32 1 (IntKind.u64.wrap (l'.getD t8.toNat 0)))).toNat : Int)) (IntKind.i64.wrap (t8 + 1))
      else
        none
    else
      none
  else
    some ((s, ()))
def ref_Set_p (nf : Nat) (l0 : List Int → Int → Int → Option (Int × Unit)) (l' : List Int) : Option (Int × Unit) :=
  l0 l' 0 0
def ref_Set_l0 (nf : Nat) (l' : List Int) : Nat → Int → Int → Option (Int × Unit)
  | 0, _, _ => none
  | fu + 1, s, t8 => ref_Set_b0 nf  l'  (ref_Set_l0 nf l'  fu) s t8
def ref_Set_f (nf : Nat) (l' : List Int) : Option (Int × Unit) := ref_Set_p nf (fun p0 v0 v1 => ref_Set_l0 nf p0 nf v0 v1) l'
noncomputable def ref_Set_L0 (nf : Nat) : LC (Int × Unit) := theL (findL tab (ref_Set_phi nf) (fun _ F => iter nf F) ref_Set_keep 0 0 (codeOf Try.f42) (fin tab [(Ty.int IntKind.u32, Md.bor false true)] (resL ([]) Try.f42)) (fun _ _ => none) (fin tab [(Ty.int IntKind.u32, Md.bor false true)] (resL ([]) Try.f42)))
def ref_Set_m0 (l' : List Int) (s : Int) (t8 : Int) : St := ⟨fresh, [(0, AV.v (Ty.int IntKind.i64).sl (Md.bor true false) l'), (3, AV.v (Ty.int IntKind.u32) (Md.bor false true) s), (6, AV.v (Ty.int IntKind.i64).sl (Md.bor true false) l'), (7, AV.v (Ty.int IntKind.i64) (Md.bor false true) (↑l'.length : Int)), (8, AV.v (Ty.int IntKind.i64) (Md.bor false true) t8)]⟩
theorem ref_Set_h0 (nf : Nat)  (l' : List Int) (fu : Nat) (s : Int) (t8 : Int) : iter (fu + 1) (LC.F tab (ref_Set_phi nf) (fun _ F => iter nf F) ref_Set_keep 0 (ref_Set_L0 nf )) (ref_Set_m0 l' s t8) = ref_Set_b0 nf  l'  (fun s t8 => iter fu (LC.F tab (ref_Set_phi nf) (fun _ F => iter nf F) ref_Set_keep 0 (ref_Set_L0 nf )) (ref_Set_m0 l' s t8)) s t8 := by kernel_rfl
theorem ref_Set_e0 (nf : Nat)  (l' : List Int) : ∀ (fu : Nat) (s : Int) (t8 : Int), iter fu (LC.F tab (ref_Set_phi nf) (fun _ F => iter nf F) ref_Set_keep 0 (ref_Set_L0 nf )) (ref_Set_m0 l' s t8) = ref_Set_l0 nf l'  fu s t8 := by
  intro fu
  induction fu with
  | zero => intros; rfl
  | succ fu ih =>
    intro s t8
    rw [ref_Set_h0 nf  l' fu s t8]
    simp only [ih]
    rfl
theorem ref_Set_eq (nf : Nat) (l' : List Int) : runF tab (ref_Set_phi nf) ref_Set_keep nf [PT.val (Ty.int IntKind.i64).sl (Md.bor true false)] [(Ty.int IntKind.u32, Md.bor false true)] (resL ([]) Try.f42) (codeOf Try.f42) ⟨l', ()⟩ = ref_Set_f nf l' := by
  have h : runF tab (ref_Set_phi nf) ref_Set_keep nf [PT.val (Ty.int IntKind.i64).sl (Md.bor true false)] [(Ty.int IntKind.u32, Md.bor false true)] (resL ([]) Try.f42) (codeOf Try.f42) ⟨l', ()⟩ = ref_Set_p nf (fun p0 v0 v1 => iter nf (LC.F tab (ref_Set_phi nf) (fun _ F => iter nf F) ref_Set_keep 0 (ref_Set_L0 nf)) (ref_Set_m0 p0 v0 v1)) l' := by kernel_rfl
  rw [h]
  simp only [ref_Set_e0]
  rfl
def ref_Set_F (nf : Nat) (x : denPs [.val (.sl (.int .i64)) (.bor true false)]) : Option (denL [(.int .u32, .bor false true)]) := ref_Set_f nf x.1
def ref_Set_C (nf : Nat) : Contract := ⟨[.val (.sl (.int .i64)) (.bor true false)], [(.int .u32, .bor false true)], ref_Set_F nf, []⟩
theorem ref_Set_ok : FnOK Try.prog 42 := ⟨Try.f42, codeOf Try.f42, Try.func42, by kernel_rfl, by kernel_rfl⟩
theorem ref_Set_holds (nf : Nat) : Contract.Holds Try.prog 42 (ref_Set_C nf) :=
  fn_holds (Φ := ref_Set_phi nf) (keep := ref_Set_keep) (n := nf) ⟨tabs.1, tabs.2, ctx_nil, mixed, bk_ok bkls rfl⟩ (fn := Try.f42) ⟨Try.func42, by kernel_rfl, by kernel_rfl, by kernel_rfl⟩ (fun x => ref_Set_eq nf x.1)

/-! codemason codemasonref.pointees -/
def ref_pointees_phi (nf : Nat) : Nat → Option Contract := lookC []
def ref_pointees_keep : Nat → List Nat := lookK [(0, [0, 1, 2, 7, 8, 22])]
def ref_pointees_b0 (nf : Nat) (vars : Int) (to' : List ((Int × Int × Unit) × Bool)) (i : Int) (g0 : List Int → Int → Option (List Int × Unit)) (l' : List Int) (j : Int) : Option (List Int × Unit) :=
  bif decide (j < vars) then
    bif (getM ((Ty.int IntKind.i64).pair ((Ty.int IntKind.i64).pair Ty.unit)) Ty.bool to' (i, j, ())).getD false then
      bif bimp false ![j].isEmpty && (l'.length + [j].length).ble lim then
        g0 (l' ++ [j]) (IntKind.i64.wrap (j + 1))
      else
        none
    else
      g0 l' (IntKind.i64.wrap (j + 1))
  else
    some ((l', ()))
def ref_pointees_p (nf : Nat) (l0 : Int → List ((Int × Int × Unit) × Bool) → Int → List Int → Int → Option (List Int × Unit)) (vars : Int) (to' : List ((Int × Int × Unit) × Bool)) (i : Int) : Option (List Int × Unit) :=
  l0 vars to' i [] 0
def ref_pointees_l0 (nf : Nat) (vars : Int) (to' : List ((Int × Int × Unit) × Bool)) (i : Int) : Nat → List Int → Int → Option (List Int × Unit)
  | 0, _, _ => none
  | fu + 1, l', j => ref_pointees_b0 nf  vars to' i  (ref_pointees_l0 nf vars to' i  fu) l' j
def ref_pointees_f (nf : Nat) (vars : Int) (to' : List ((Int × Int × Unit) × Bool)) (i : Int) : Option (List Int × Unit) := ref_pointees_p nf (fun p0 p1 p2 v0 v1 => ref_pointees_l0 nf p0 p1 p2 nf v0 v1) vars to' i
noncomputable def ref_pointees_L0 (nf : Nat) : LC (List Int × Unit) := theL (findL tab (ref_pointees_phi nf) (fun _ F => iter nf F) ref_pointees_keep 0 0 (codeOf Try.f54) (fin tab [((Ty.int IntKind.i64).sl, Md.own false (Md.bor false false))] (resL ([]) Try.f54)) (fun _ _ => none) (fin tab [((Ty.int IntKind.i64).sl, Md.own false (Md.bor false false))] (resL ([]) Try.f54)))
def ref_pointees_m0 (vars : Int) (to' : List ((Int × Int × Unit) × Bool)) (i : Int) (l' : List Int) (j : Int) : St := ⟨fresh, [(0, AV.v (Ty.int IntKind.i64) (Md.bor false true) vars), (1, AV.v (((Ty.int IntKind.i64).pair ((Ty.int IntKind.i64).pair Ty.unit)).mp Ty.bool) (Md.bor true false) to'), (2, AV.v (Ty.int IntKind.i64) (Md.bor false true) i), (7, AV.ow 500007 (Ty.int IntKind.i64).sl (Md.own false (Md.bor false false)) l'), (8, AV.v (Ty.int IntKind.i64) (Md.bor false true) j), (22, AV.dead)]⟩
theorem ref_pointees_h0 (nf : Nat)  (vars : Int) (to' : List ((Int × Int × Unit) × Bool)) (i : Int) (fu : Nat) (l' : List Int) (j : Int) : iter (fu + 1) (LC.F tab (ref_pointees_phi nf) (fun _ F => iter nf F) ref_pointees_keep 0 (ref_pointees_L0 nf )) (ref_pointees_m0 vars to' i l' j) = ref_pointees_b0 nf  vars to' i  (fun l' j => iter fu (LC.F tab (ref_pointees_phi nf) (fun _ F => iter nf F) ref_pointees_keep 0 (ref_pointees_L0 nf )) (ref_pointees_m0 vars to' i l' j)) l' j := by kernel_rfl
theorem ref_pointees_e0 (nf : Nat)  (vars : Int) (to' : List ((Int × Int × Unit) × Bool)) (i : Int) : ∀ (fu : Nat) (l' : List Int) (j : Int), iter fu (LC.F tab (ref_pointees_phi nf) (fun _ F => iter nf F) ref_pointees_keep 0 (ref_pointees_L0 nf )) (ref_pointees_m0 vars to' i l' j) = ref_pointees_l0 nf vars to' i  fu l' j := by
  intro fu
  induction fu with
  | zero => intros; rfl
  | succ fu ih =>
    intro l' j
    rw [ref_pointees_h0 nf  vars to' i fu l' j]
    simp only [ih]
    rfl
theorem ref_pointees_eq (nf : Nat) (vars : Int) (to' : List ((Int × Int × Unit) × Bool)) (i : Int) : runF tab (ref_pointees_phi nf) ref_pointees_keep nf [PT.val (Ty.int IntKind.i64) (Md.bor true false), PT.val (((Ty.int IntKind.i64).pair ((Ty.int IntKind.i64).pair Ty.unit)).mp Ty.bool) (Md.bor true false), PT.val (Ty.int IntKind.i64) (Md.bor true false)] [((Ty.int IntKind.i64).sl, Md.own false (Md.bor false false))] (resL ([]) Try.f54) (codeOf Try.f54) ⟨vars, to', i, ()⟩ = ref_pointees_f nf vars to' i := by
  have h : runF tab (ref_pointees_phi nf) ref_pointees_keep nf [PT.val (Ty.int IntKind.i64) (Md.bor true false), PT.val (((Ty.int IntKind.i64).pair ((Ty.int IntKind.i64).pair Ty.unit)).mp Ty.bool) (Md.bor true false), PT.val (Ty.int IntKind.i64) (Md.bor true false)] [((Ty.int IntKind.i64).sl, Md.own false (Md.bor false false))] (resL ([]) Try.f54) (codeOf Try.f54) ⟨vars, to', i, ()⟩ = ref_pointees_p nf (fun p0 p1 p2 v0 v1 => iter nf (LC.F tab (ref_pointees_phi nf) (fun _ F => iter nf F) ref_pointees_keep 0 (ref_pointees_L0 nf)) (ref_pointees_m0 p0 p1 p2 v0 v1)) vars to' i := by kernel_rfl
  rw [h]
  simp only [ref_pointees_e0]
  rfl
def ref_pointees_F (nf : Nat) (x : denPs [.val (.int .i64) (.bor true false), .val (.mp (.pair (.int .i64) (.pair (.int .i64) (.unit))) (.bool)) (.bor true false), .val (.int .i64) (.bor true false)]) : Option (denL [(.sl (.int .i64), .own false (.bor false false))]) := ref_pointees_f nf x.1 x.2.1 x.2.2.1
def ref_pointees_C (nf : Nat) : Contract := ⟨[.val (.int .i64) (.bor true false), .val (.mp (.pair (.int .i64) (.pair (.int .i64) (.unit))) (.bool)) (.bor true false), .val (.int .i64) (.bor true false)], [(.sl (.int .i64), .own false (.bor false false))], ref_pointees_F nf, []⟩
theorem ref_pointees_ok : FnOK Try.prog 54 := ⟨Try.f54, codeOf Try.f54, Try.func54, by kernel_rfl, by kernel_rfl⟩
theorem ref_pointees_holds (nf : Nat) : Contract.Holds Try.prog 54 (ref_pointees_C nf) :=
  fn_holds (Φ := ref_pointees_phi nf) (keep := ref_pointees_keep) (n := nf) ⟨tabs.1, tabs.2, ctx_nil, mixed, bk_ok bkls rfl⟩ (fn := Try.f54) ⟨Try.func54, by kernel_rfl, by kernel_rfl, by kernel_rfl⟩ (fun x => ref_pointees_eq nf x.1 x.2.1 x.2.2.1)

/-! codemason codemasonref.Joined -/
def ref_Joined_phi (nf : Nat) : Nat → Option Contract := lookC [(42, ref_Set_C nf), (54, ref_pointees_C nf)]
def ref_Joined_keep : Nat → List Nat := lookK [(18, [0, 6, 21, 22, 24, 215]), (16, [0, 1, 5, 6, 8, 18, 19, 20, 23, 24, 72, 80, 215]), (14, [0, 1, 5, 6, 8, 18, 19, 23, 24, 72, 80, 215]), (12, [0, 1, 5, 6, 8, 18, 23, 24, 72, 80, 215]), (10, [0, 1, 5, 6, 8, 10, 11, 12, 13, 15, 23, 24, 39, 40, 41, 61, 64, 72, 80, 84, 85, 86, 90, 91, 92, 215]), (8, [0, 1, 5, 6, 8, 10, 11, 12, 13, 23, 24, 39, 40, 41, 61, 64, 72, 80, 84, 85, 86, 215]), (6, [0, 1, 5, 6, 8, 10, 11, 23, 24, 39, 40, 41, 72, 80, 215]), (4, [0, 1, 5, 6, 8, 23, 24, 39, 40, 41, 72, 80, 215]), (2, [0, 1, 5, 6, 23, 24, 72, 80, 215]), (0, [0, 1, 5, 6, 7, 23, 24, 72, 80, 215])]
def ref_Joined_b0 (nf : Nat) (l2 : Int → List (Int × Int × Int × Unit) → List ((Int × Int × Unit) × Bool) → List ((Int × Int × Unit) × Bool) → Option (List Int × Unit)) (vars : Int) (l' : List (Int × Int × Int × Unit)) (g0 : List ((Int × Int × Unit) × Bool) → List ((Int × Int × Unit) × Bool) → Int → Option (List Int × Unit)) (one : List ((Int × Int × Unit) × Bool)) (to' : List ((Int × Int × Unit) × Bool)) (i : Int) : Option (List Int × Unit) :=
  bif decide (i < vars) then
    g0 (insM ((Ty.int IntKind.i64).pair ((Ty.int IntKind.i64).pair Ty.unit)) Ty.bool one (i, i, ()) true) to' (IntKind.i64.wrap (i + 1))
  else
    l2 vars l' one to'
def ref_Joined_b2 (nf : Nat) (l4 : Int → List (Int × Int × Int × Unit) → List ((Int × Int × Unit) × Bool) → List ((Int × Int × Unit) × Bool) → List ((Int × Int × Unit) × Bool) → List ((Int × Int × Unit) × Bool) → Int → Option (List Int × Unit)) (vars : Int) (l' : List (Int × Int × Int × Unit)) (g2 : List ((Int × Int × Unit) × Bool) → List ((Int × Int × Unit) × Bool) → Option (List Int × Unit)) (one2 : List ((Int × Int × Unit) × Bool)) (to'2 : List ((Int × Int × Unit) × Bool)) : Option (List Int × Unit) :=
  l4 vars l' one2 to'2 one2 to'2 0
def ref_Joined_b4 (nf : Nat) (l6 : Int → List (Int × Int × Int × Unit) → List ((Int × Int × Unit) × Bool) → List ((Int × Int × Unit) × Bool) → Int → List ((Int × Int × Unit) × Bool) → List ((Int × Int × Unit) × Bool) → Int × Int × Int × Unit → Int → Option (List Int × Unit)) (l12 : Int → List (Int × Int × Int × Unit) → List ((Int × Int × Unit) × Bool) → List ((Int × Int × Unit) × Bool) → List ((Int × Int × Unit) × Bool) → List ((Int × Int × Unit) × Bool) → Int → Option (List Int × Unit)) (vars : Int) (l' : List (Int × Int × Int × Unit)) (one2 : List ((Int × Int × Unit) × Bool)) (to'2 : List ((Int × Int × Unit) × Bool)) (g2 : List ((Int × Int × Unit) × Bool) → List ((Int × Int × Unit) × Bool) → Option (List Int × Unit)) (g4 : List ((Int × Int × Unit) × Bool) → List ((Int × Int × Unit) × Bool) → Int → Option (List Int × Unit)) (one3 : List ((Int × Int × Unit) × Bool)) (to'3 : List ((Int × Int × Unit) × Bool)) (t41 : Int) : Option (List Int × Unit) :=
  bif decide (t41 < (↑l'.length : Int)) then
    bif inb t41 l'.length then
      bif (l'.getD t41.toNat (0, 0, 0, ())).fst == 1 then
        l6 vars l' one2 to'2 t41 one3 (insM ((Ty.int IntKind.i64).pair ((Ty.int IntKind.i64).pair Ty.unit)) Ty.bool to'3 ((l'.getD t41.toNat (0, 0, 0, ())).snd.fst, (l'.getD t41.toNat (0, 0, 0, ())).snd.snd.fst, ()) true) (l'.getD t41.toNat (0, 0, 0, ())) 0
      else
        l6 vars l' one2 to'2 t41 one3 to'3 (l'.getD t41.toNat (0, 0, 0, ())) 0
    else
      none
  else
    l12 vars l' one2 to'2 one3 to'3 0
def ref_Joined_b6 (nf : Nat) (l8 : Int → List (Int × Int × Int × Unit) → List ((Int × Int × Unit) × Bool) → List ((Int × Int × Unit) × Bool) → Int → Int → List ((Int × Int × Unit) × Bool) → List ((Int × Int × Unit) × Bool) → Int × Int × Int × Unit → List Int → List Int → Int → Int → Option (List Int × Unit)) (vars : Int) (l' : List (Int × Int × Int × Unit)) (one2 : List ((Int × Int × Unit) × Bool)) (to'2 : List ((Int × Int × Unit) × Bool)) (t41 : Int) (g4 : List ((Int × Int × Unit) × Bool) → List ((Int × Int × Unit) × Bool) → Int → Option (List Int × Unit)) (g2 : List ((Int × Int × Unit) × Bool) → List ((Int × Int × Unit) × Bool) → Option (List Int × Unit)) (g6 : List ((Int × Int × Unit) × Bool) → List ((Int × Int × Unit) × Bool) → Int × Int × Int × Unit → Int → Option (List Int × Unit)) (one4 : List ((Int × Int × Unit) × Bool)) (to'4 : List ((Int × Int × Unit) × Bool)) (p : Int × Int × Int × Unit) (x : Int) : Option (List Int × Unit) :=
  bif decide (x < vars) then
    bif p.fst == 3 then
      Option.bind (ref_pointees_f nf vars to'4 p.snd.snd.fst) fun r =>
      bif p.fst == 4 then
        Option.bind (ref_pointees_f nf vars to'4 p.snd.fst) fun r2 =>
        bif p.fst == 1 then
          g6 one4 to'4 p (IntKind.i64.wrap (x + 1))
        else
          l8 vars l' one2 to'2 x t41 one4 to'4 p r2.fst r.fst ((↑(List.length r2.fst) : Int)) 0
      else
        bif p.fst == 1 then
          g6 one4 to'4 p (IntKind.i64.wrap (x + 1))
        else
          l8 vars l' one2 to'2 x t41 one4 to'4 p [p.snd.fst] r.fst ((↑[p.snd.fst].length : Int)) 0
    else
      bif p.fst == 4 then
        Option.bind (ref_pointees_f nf vars to'4 p.snd.fst) fun r3 =>
        bif p.fst == 1 then
          g6 one4 to'4 p (IntKind.i64.wrap (x + 1))
        else
          l8 vars l' one2 to'2 x t41 one4 to'4 p r3.fst [p.snd.snd.fst] ((↑(List.length r3.fst) : Int)) 0
      else
        bif p.fst == 1 then
          g6 one4 to'4 p (IntKind.i64.wrap (x + 1))
        else
          l8 vars l' one2 to'2 x t41 one4 to'4 p [p.snd.fst] [p.snd.snd.fst] ((↑[p.snd.fst].length : Int)) 0
  else
    g4 one4 to'4 (IntKind.i64.wrap (t41 + 1))
def ref_Joined_b8 (nf : Nat) (l10 : Int → List (Int × Int × Int × Unit) → List ((Int × Int × Unit) × Bool) → List ((Int × Int × Unit) × Bool) → Int → List Int → Int → Int → Int → List Int → List ((Int × Int × Unit) × Bool) → List ((Int × Int × Unit) × Bool) → Int × Int × Int × Unit → List Int → List Int → Int → Option (List Int × Unit)) (vars : Int) (l' : List (Int × Int × Int × Unit)) (one2 : List ((Int × Int × Unit) × Bool)) (to'2 : List ((Int × Int × Unit) × Bool)) (x : Int) (t41 : Int) (g6 : List ((Int × Int × Unit) × Bool) → List ((Int × Int × Unit) × Bool) → Int × Int × Int × Unit → Int → Option (List Int × Unit)) (g4 : List ((Int × Int × Unit) × Bool) → List ((Int × Int × Unit) × Bool) → Int → Option (List Int × Unit)) (g2 : List ((Int × Int × Unit) × Bool) → List ((Int × Int × Unit) × Bool) → Option (List Int × Unit)) (g8 : List ((Int × Int × Unit) × Bool) → List ((Int × Int × Unit) × Bool) → Int × Int × Int × Unit → List Int → List Int → Int → Int → Option (List Int × Unit)) (one5 : List ((Int × Int × Unit) × Bool)) (to'5 : List ((Int × Int × Unit) × Bool)) (p2 : Int × Int × Int × Unit) (a : List Int) (b : List Int) (t85 : Int) (t86 : Int) : Option (List Int × Unit) :=
  bif decide (t86 < t85) then
    bif inb t86 a.length then
      l10 vars l' one2 to'2 x a t86 t41 t85 b one5 to'5 p2 a b 0
    else
      none
  else
    g6 one5 to'5 p2 (IntKind.i64.wrap (x + 1))
def ref_Joined_b10 (nf : Nat) (vars : Int) (l' : List (Int × Int × Int × Unit)) (one2 : List ((Int × Int × Unit) × Bool)) (to'2 : List ((Int × Int × Unit) × Bool)) (x : Int) (a : List Int) (t86 : Int) (t41 : Int) (t85 : Int) (b : List Int) (g8 : List ((Int × Int × Unit) × Bool) → List ((Int × Int × Unit) × Bool) → Int × Int × Int × Unit → List Int → List Int → Int → Int → Option (List Int × Unit)) (g6 : List ((Int × Int × Unit) × Bool) → List ((Int × Int × Unit) × Bool) → Int × Int × Int × Unit → Int → Option (List Int × Unit)) (g4 : List ((Int × Int × Unit) × Bool) → List ((Int × Int × Unit) × Bool) → Int → Option (List Int × Unit)) (g2 : List ((Int × Int × Unit) × Bool) → List ((Int × Int × Unit) × Bool) → Option (List Int × Unit)) (g10 : List ((Int × Int × Unit) × Bool) → List ((Int × Int × Unit) × Bool) → Int × Int × Int × Unit → List Int → List Int → Int → Option (List Int × Unit)) (one6 : List ((Int × Int × Unit) × Bool)) (to'6 : List ((Int × Int × Unit) × Bool)) (p3 : Int × Int × Int × Unit) (a2 : List Int) (b2 : List Int) (t92 : Int) : Option (List Int × Unit) :=
  bif decide (t92 < (↑b.length : Int)) then
    bif inb t92 b2.length then
      bif (getM ((Ty.int IntKind.i64).pair ((Ty.int IntKind.i64).pair Ty.unit)) Ty.bool to'6 (a.getD t86.toNat 0, x, ())).getD false then
        bif (getM ((Ty.int IntKind.i64).pair ((Ty.int IntKind.i64).pair Ty.unit)) Ty.bool (insM ((Ty.int IntKind.i64).pair ((Ty.int IntKind.i64).pair Ty.unit)) Ty.bool to'6 (b2.getD t92.toNat 0, x, ()) true) (b2.getD t92.toNat 0, x, ())).getD false then
          g10 one6 (insM ((Ty.int IntKind.i64).pair ((Ty.int IntKind.i64).pair Ty.unit)) Ty.bool (insM ((Ty.int IntKind.i64).pair ((Ty.int IntKind.i64).pair Ty.unit)) Ty.bool to'6 (b2.getD t92.toNat 0, x, ()) true) (a.getD t86.toNat 0, x, ()) true) p3 a2 b2 (IntKind.i64.wrap (t92 + 1))
        else
          g10 one6 (insM ((Ty.int IntKind.i64).pair ((Ty.int IntKind.i64).pair Ty.unit)) Ty.bool to'6 (b2.getD t92.toNat 0, x, ()) true) p3 a2 b2 (IntKind.i64.wrap (t92 + 1))
      else
        bif (getM ((Ty.int IntKind.i64).pair ((Ty.int IntKind.i64).pair Ty.unit)) Ty.bool to'6 (b2.getD t92.toNat 0, x, ())).getD false then
          g10 one6 (insM ((Ty.int IntKind.i64).pair ((Ty.int IntKind.i64).pair Ty.unit)) Ty.bool to'6 (a.getD t86.toNat 0, x, ()) true) p3 a2 b2 (IntKind.i64.wrap (t92 + 1))
        else
          g10 one6 to'6 p3 a2 b2 (IntKind.i64.wrap (t92 + 1))
    else
      none
  else
    g8 one6 to'6 p3 a2 b2 t85 (IntKind.i64.wrap (t86 + 1))
def ref_Joined_b12 (nf : Nat) (l14 : Int → List (Int × Int × Int × Unit) → List ((Int × Int × Unit) × Bool) → List ((Int × Int × Unit) × Bool) → Int → List ((Int × Int × Unit) × Bool) → List ((Int × Int × Unit) × Bool) → Int → Option (List Int × Unit)) (l18 : Int → List ((Int × Int × Unit) × Bool) → List Int → Int → Option (List Int × Unit)) (vars : Int) (l' : List (Int × Int × Int × Unit)) (one2 : List ((Int × Int × Unit) × Bool)) (to'2 : List ((Int × Int × Unit) × Bool)) (g2 : List ((Int × Int × Unit) × Bool) → List ((Int × Int × Unit) × Bool) → Option (List Int × Unit)) (g12 : List ((Int × Int × Unit) × Bool) → List ((Int × Int × Unit) × Bool) → Int → Option (List Int × Unit)) (one7 : List ((Int × Int × Unit) × Bool)) (to'7 : List ((Int × Int × Unit) × Bool)) (i2 : Int) : Option (List Int × Unit) :=
  bif decide (i2 < vars) then
    l14 vars l' one2 to'2 i2 one7 to'7 0
  else
    bif IntKind.i64.wrap ((↑one7.length : Int) + (↑to'7.length : Int)) == IntKind.i64.wrap ((↑one2.length : Int) + (↑to'2.length : Int)) then
      l18 vars to'7 [] 0
    else
      g2 one7 to'7
def ref_Joined_b14 (nf : Nat) (l16 : Int → List (Int × Int × Int × Unit) → List ((Int × Int × Unit) × Bool) → List ((Int × Int × Unit) × Bool) → Int → Int → List ((Int × Int × Unit) × Bool) → List ((Int × Int × Unit) × Bool) → Int → Option (List Int × Unit)) (vars : Int) (l' : List (Int × Int × Int × Unit)) (one2 : List ((Int × Int × Unit) × Bool)) (to'2 : List ((Int × Int × Unit) × Bool)) (i2 : Int) (g12 : List ((Int × Int × Unit) × Bool) → List ((Int × Int × Unit) × Bool) → Int → Option (List Int × Unit)) (g2 : List ((Int × Int × Unit) × Bool) → List ((Int × Int × Unit) × Bool) → Option (List Int × Unit)) (g14 : List ((Int × Int × Unit) × Bool) → List ((Int × Int × Unit) × Bool) → Int → Option (List Int × Unit)) (one8 : List ((Int × Int × Unit) × Bool)) (to'8 : List ((Int × Int × Unit) × Bool)) (j : Int) : Option (List Int × Unit) :=
  bif decide (j < vars) then
    l16 vars l' one2 to'2 i2 j one8 to'8 0
  else
    g12 one8 to'8 (IntKind.i64.wrap (i2 + 1))
def ref_Joined_b16 (nf : Nat) (vars : Int) (l' : List (Int × Int × Int × Unit)) (one2 : List ((Int × Int × Unit) × Bool)) (to'2 : List ((Int × Int × Unit) × Bool)) (i2 : Int) (j : Int) (g14 : List ((Int × Int × Unit) × Bool) → List ((Int × Int × Unit) × Bool) → Int → Option (List Int × Unit)) (g12 : List ((Int × Int × Unit) × Bool) → List ((Int × Int × Unit) × Bool) → Int → Option (List Int × Unit)) (g2 : List ((Int × Int × Unit) × Bool) → List ((Int × Int × Unit) × Bool) → Option (List Int × Unit)) (g16 : List ((Int × Int × Unit) × Bool) → List ((Int × Int × Unit) × Bool) → Int → Option (List Int × Unit)) (one9 : List ((Int × Int × Unit) × Bool)) (to'9 : List ((Int × Int × Unit) × Bool)) (k' : Int) : Option (List Int × Unit) :=
  bif decide (k' < vars) then
    bif (getM ((Ty.int IntKind.i64).pair ((Ty.int IntKind.i64).pair Ty.unit)) Ty.bool to'9 (i2, j, ())).getD false then
      bif (getM ((Ty.int IntKind.i64).pair ((Ty.int IntKind.i64).pair Ty.unit)) Ty.bool to'9 (i2, k', ())).getD false then
        bif (getM ((Ty.int IntKind.i64).pair ((Ty.int IntKind.i64).pair Ty.unit)) Ty.bool (insM ((Ty.int IntKind.i64).pair ((Ty.int IntKind.i64).pair Ty.unit)) Ty.bool one9 (j, k', ()) true) (i2, j, ())).getD false then
          bif (getM ((Ty.int IntKind.i64).pair ((Ty.int IntKind.i64).pair Ty.unit)) Ty.bool (insM ((Ty.int IntKind.i64).pair ((Ty.int IntKind.i64).pair Ty.unit)) Ty.bool one9 (j, k', ()) true) (j, k', ())).getD false then
            bif (getM ((Ty.int IntKind.i64).pair ((Ty.int IntKind.i64).pair Ty.unit)) Ty.bool to'9 (i2, j, ())).getD false then
              bif (getM ((Ty.int IntKind.i64).pair ((Ty.int IntKind.i64).pair Ty.unit)) Ty.bool (insM ((Ty.int IntKind.i64).pair ((Ty.int IntKind.i64).pair Ty.unit)) Ty.bool (insM ((Ty.int IntKind.i64).pair ((Ty.int IntKind.i64).pair Ty.unit)) Ty.bool one9 (j, k', ()) true) (i2, k', ()) true) (j, k', ())).getD false then
                bif (getM ((Ty.int IntKind.i64).pair ((Ty.int IntKind.i64).pair Ty.unit)) Ty.bool (insM ((Ty.int IntKind.i64).pair ((Ty.int IntKind.i64).pair Ty.unit)) Ty.bool (insM ((Ty.int IntKind.i64).pair ((Ty.int IntKind.i64).pair Ty.unit)) Ty.bool one9 (j, k', ()) true) (i2, k', ()) true) (i2, j, ())).getD false then
                  bif (getM ((Ty.int IntKind.i64).pair ((Ty.int IntKind.i64).pair Ty.unit)) Ty.bool (insM ((Ty.int IntKind.i64).pair ((Ty.int IntKind.i64).pair Ty.unit)) Ty.bool to'9 (i2, k', ()) true) (j, k', ())).getD false then
                    g16 (insM ((Ty.int IntKind.i64).pair ((Ty.int IntKind.i64).pair Ty.unit)) Ty.bool (insM ((Ty.int IntKind.i64).pair ((Ty.int IntKind.i64).pair Ty.unit)) Ty.bool one9 (j, k', ()) true) (i2, k', ()) true) (insM ((Ty.int IntKind.i64).pair ((Ty.int IntKind.i64).pair Ty.unit)) Ty.bool (insM ((Ty.int IntKind.i64).pair ((Ty.int IntKind.i64).pair Ty.unit)) Ty.bool to'9 (i2, k', ()) true) (i2, k', ()) true) (IntKind.i64.wrap (k' + 1))
                  else
                    g16 (insM ((Ty.int IntKind.i64).pair ((Ty.int IntKind.i64).pair Ty.unit)) Ty.bool (insM ((Ty.int IntKind.i64).pair ((Ty.int IntKind.i64).pair Ty.unit)) Ty.bool one9 (j, k', ()) true) (i2, k', ()) true) (insM ((Ty.int IntKind.i64).pair ((Ty.int IntKind.i64).pair Ty.unit)) Ty.bool to'9 (i2, k', ()) true) (IntKind.i64.wrap (k' + 1))
                else
                  g16 (insM ((Ty.int IntKind.i64).pair ((Ty.int IntKind.i64).pair Ty.unit)) Ty.bool (insM ((Ty.int IntKind.i64).pair ((Ty.int IntKind.i64).pair Ty.unit)) Ty.bool one9 (j, k', ()) true) (i2, k', ()) true) (insM ((Ty.int IntKind.i64).pair ((Ty.int IntKind.i64).pair Ty.unit)) Ty.bool to'9 (i2, k', ()) true) (IntKind.i64.wrap (k' + 1))
              else
                bif (getM ((Ty.int IntKind.i64).pair ((Ty.int IntKind.i64).pair Ty.unit)) Ty.bool (insM ((Ty.int IntKind.i64).pair ((Ty.int IntKind.i64).pair Ty.unit)) Ty.bool (insM ((Ty.int IntKind.i64).pair ((Ty.int IntKind.i64).pair Ty.unit)) Ty.bool one9 (j, k', ()) true) (i2, k', ()) true) (i2, j, ())).getD false then
                  bif (getM ((Ty.int IntKind.i64).pair ((Ty.int IntKind.i64).pair Ty.unit)) Ty.bool to'9 (j, k', ())).getD false then
                    g16 (insM ((Ty.int IntKind.i64).pair ((Ty.int IntKind.i64).pair Ty.unit)) Ty.bool (insM ((Ty.int IntKind.i64).pair ((Ty.int IntKind.i64).pair Ty.unit)) Ty.bool one9 (j, k', ()) true) (i2, k', ()) true) (insM ((Ty.int IntKind.i64).pair ((Ty.int IntKind.i64).pair Ty.unit)) Ty.bool to'9 (i2, k', ()) true) (IntKind.i64.wrap (k' + 1))
                  else
                    g16 (insM ((Ty.int IntKind.i64).pair ((Ty.int IntKind.i64).pair Ty.unit)) Ty.bool (insM ((Ty.int IntKind.i64).pair ((Ty.int IntKind.i64).pair Ty.unit)) Ty.bool one9 (j, k', ()) true) (i2, k', ()) true) to'9 (IntKind.i64.wrap (k' + 1))
                else
                  g16 (insM ((Ty.int IntKind.i64).pair ((Ty.int IntKind.i64).pair Ty.unit)) Ty.bool (insM ((Ty.int IntKind.i64).pair ((Ty.int IntKind.i64).pair Ty.unit)) Ty.bool one9 (j, k', ()) true) (i2, k', ()) true) to'9 (IntKind.i64.wrap (k' + 1))
            else
              bif (getM ((Ty.int IntKind.i64).pair ((Ty.int IntKind.i64).pair Ty.unit)) Ty.bool (insM ((Ty.int IntKind.i64).pair ((Ty.int IntKind.i64).pair Ty.unit)) Ty.bool (insM ((Ty.int IntKind.i64).pair ((Ty.int IntKind.i64).pair Ty.unit)) Ty.bool one9 (j, k', ()) true) (i2, k', ()) true) (i2, j, ())).getD false then
                bif (getM ((Ty.int IntKind.i64).pair ((Ty.int IntKind.i64).pair Ty.unit)) Ty.bool to'9 (j, k', ())).getD false then
                  g16 (insM ((Ty.int IntKind.i64).pair ((Ty.int IntKind.i64).pair Ty.unit)) Ty.bool (insM ((Ty.int IntKind.i64).pair ((Ty.int IntKind.i64).pair Ty.unit)) Ty.bool one9 (j, k', ()) true) (i2, k', ()) true) (insM ((Ty.int IntKind.i64).pair ((Ty.int IntKind.i64).pair Ty.unit)) Ty.bool to'9 (i2, k', ()) true) (IntKind.i64.wrap (k' + 1))
                else
                  g16 (insM ((Ty.int IntKind.i64).pair ((Ty.int IntKind.i64).pair Ty.unit)) Ty.bool (insM ((Ty.int IntKind.i64).pair ((Ty.int IntKind.i64).pair Ty.unit)) Ty.bool one9 (j, k', ()) true) (i2, k', ()) true) to'9 (IntKind.i64.wrap (k' + 1))
              else
                g16 (insM ((Ty.int IntKind.i64).pair ((Ty.int IntKind.i64).pair Ty.unit)) Ty.bool (insM ((Ty.int IntKind.i64).pair ((Ty.int IntKind.i64).pair Ty.unit)) Ty.bool one9 (j, k', ()) true) (i2, k', ()) true) to'9 (IntKind.i64.wrap (k' + 1))
          else
            bif (getM ((Ty.int IntKind.i64).pair ((Ty.int IntKind.i64).pair Ty.unit)) Ty.bool to'9 (i2, j, ())).getD false then
              bif (getM ((Ty.int IntKind.i64).pair ((Ty.int IntKind.i64).pair Ty.unit)) Ty.bool (insM ((Ty.int IntKind.i64).pair ((Ty.int IntKind.i64).pair Ty.unit)) Ty.bool one9 (j, k', ()) true) (j, k', ())).getD false then
                bif (getM ((Ty.int IntKind.i64).pair ((Ty.int IntKind.i64).pair Ty.unit)) Ty.bool (insM ((Ty.int IntKind.i64).pair ((Ty.int IntKind.i64).pair Ty.unit)) Ty.bool one9 (j, k', ()) true) (i2, j, ())).getD false then
                  bif (getM ((Ty.int IntKind.i64).pair ((Ty.int IntKind.i64).pair Ty.unit)) Ty.bool (insM ((Ty.int IntKind.i64).pair ((Ty.int IntKind.i64).pair Ty.unit)) Ty.bool to'9 (i2, k', ()) true) (j, k', ())).getD false then
                    g16 (insM ((Ty.int IntKind.i64).pair ((Ty.int IntKind.i64).pair Ty.unit)) Ty.bool one9 (j, k', ()) true) (insM ((Ty.int IntKind.i64).pair ((Ty.int IntKind.i64).pair Ty.unit)) Ty.bool (insM ((Ty.int IntKind.i64).pair ((Ty.int IntKind.i64).pair Ty.unit)) Ty.bool to'9 (i2, k', ()) true) (i2, k', ()) true) (IntKind.i64.wrap (k' + 1))
                  else
                    g16 (insM ((Ty.int IntKind.i64).pair ((Ty.int IntKind.i64).pair Ty.unit)) Ty.bool one9 (j, k', ()) true) (insM ((Ty.int IntKind.i64).pair ((Ty.int IntKind.i64).pair Ty.unit)) Ty.bool to'9 (i2, k', ()) true) (IntKind.i64.wrap (k' + 1))
                else
                  g16 (insM ((Ty.int IntKind.i64).pair ((Ty.int IntKind.i64).pair Ty.unit)) Ty.bool one9 (j, k', ()) true) (insM ((Ty.int IntKind.i64).pair ((Ty.int IntKind.i64).pair Ty.unit)) Ty.bool to'9 (i2, k', ()) true) (IntKind.i64.wrap (k' + 1))
              else
                bif (getM ((Ty.int IntKind.i64).pair ((Ty.int IntKind.i64).pair Ty.unit)) Ty.bool (insM ((Ty.int IntKind.i64).pair ((Ty.int IntKind.i64).pair Ty.unit)) Ty.bool one9 (j, k', ()) true) (i2, j, ())).getD false then
                  bif (getM ((Ty.int IntKind.i64).pair ((Ty.int IntKind.i64).pair Ty.unit)) Ty.bool to'9 (j, k', ())).getD false then
                    g16 (insM ((Ty.int IntKind.i64).pair ((Ty.int IntKind.i64).pair Ty.unit)) Ty.bool one9 (j, k', ()) true) (insM ((Ty.int IntKind.i64).pair ((Ty.int IntKind.i64).pair Ty.unit)) Ty.bool to'9 (i2, k', ()) true) (IntKind.i64.wrap (k' + 1))
                  else
                    g16 (insM ((Ty.int IntKind.i64).pair ((Ty.int IntKind.i64).pair Ty.unit)) Ty.bool one9 (j, k', ()) true) to'9 (IntKind.i64.wrap (k' + 1))
                else
                  g16 (insM ((Ty.int IntKind.i64).pair ((Ty.int IntKind.i64).pair Ty.unit)) Ty.bool one9 (j, k', ()) true) to'9 (IntKind.i64.wrap (k' + 1))
            else
              bif (getM ((Ty.int IntKind.i64).pair ((Ty.int IntKind.i64).pair Ty.unit)) Ty.bool (insM ((Ty.int IntKind.i64).pair ((Ty.int IntKind.i64).pair Ty.unit)) Ty.bool one9 (j, k', ()) true) (i2, j, ())).getD false then
                bif (getM ((Ty.int IntKind.i64).pair ((Ty.int IntKind.i64).pair Ty.unit)) Ty.bool to'9 (j, k', ())).getD false then
                  g16 (insM ((Ty.int IntKind.i64).pair ((Ty.int IntKind.i64).pair Ty.unit)) Ty.bool one9 (j, k', ()) true) (insM ((Ty.int IntKind.i64).pair ((Ty.int IntKind.i64).pair Ty.unit)) Ty.bool to'9 (i2, k', ()) true) (IntKind.i64.wrap (k' + 1))
                else
                  g16 (insM ((Ty.int IntKind.i64).pair ((Ty.int IntKind.i64).pair Ty.unit)) Ty.bool one9 (j, k', ()) true) to'9 (IntKind.i64.wrap (k' + 1))
              else
                g16 (insM ((Ty.int IntKind.i64).pair ((Ty.int IntKind.i64).pair Ty.unit)) Ty.bool one9 (j, k', ()) true) to'9 (IntKind.i64.wrap (k' + 1))
        else
          bif (getM ((Ty.int IntKind.i64).pair ((Ty.int IntKind.i64).pair Ty.unit)) Ty.bool to'9 (i2, j, ())).getD false then
            bif (getM ((Ty.int IntKind.i64).pair ((Ty.int IntKind.i64).pair Ty.unit)) Ty.bool (insM ((Ty.int IntKind.i64).pair ((Ty.int IntKind.i64).pair Ty.unit)) Ty.bool one9 (j, k', ()) true) (j, k', ())).getD false then
              bif (getM ((Ty.int IntKind.i64).pair ((Ty.int IntKind.i64).pair Ty.unit)) Ty.bool (insM ((Ty.int IntKind.i64).pair ((Ty.int IntKind.i64).pair Ty.unit)) Ty.bool one9 (j, k', ()) true) (i2, j, ())).getD false then
                bif (getM ((Ty.int IntKind.i64).pair ((Ty.int IntKind.i64).pair Ty.unit)) Ty.bool (insM ((Ty.int IntKind.i64).pair ((Ty.int IntKind.i64).pair Ty.unit)) Ty.bool to'9 (i2, k', ()) true) (j, k', ())).getD false then
                  g16 (insM ((Ty.int IntKind.i64).pair ((Ty.int IntKind.i64).pair Ty.unit)) Ty.bool one9 (j, k', ()) true) (insM ((Ty.int IntKind.i64).pair ((Ty.int IntKind.i64).pair Ty.unit)) Ty.bool (insM ((Ty.int IntKind.i64).pair ((Ty.int IntKind.i64).pair Ty.unit)) Ty.bool to'9 (i2, k', ()) true) (i2, k', ()) true) (IntKind.i64.wrap (k' + 1))
                else
                  g16 (insM ((Ty.int IntKind.i64).pair ((Ty.int IntKind.i64).pair Ty.unit)) Ty.bool one9 (j, k', ()) true) (insM ((Ty.int IntKind.i64).pair ((Ty.int IntKind.i64).pair Ty.unit)) Ty.bool to'9 (i2, k', ()) true) (IntKind.i64.wrap (k' + 1))
              else
                g16 (insM ((Ty.int IntKind.i64).pair ((Ty.int IntKind.i64).pair Ty.unit)) Ty.bool one9 (j, k', ()) true) (insM ((Ty.int IntKind.i64).pair ((Ty.int IntKind.i64).pair Ty.unit)) Ty.bool to'9 (i2, k', ()) true) (IntKind.i64.wrap (k' + 1))
            else
              bif (getM ((Ty.int IntKind.i64).pair ((Ty.int IntKind.i64).pair Ty.unit)) Ty.bool (insM ((Ty.int IntKind.i64).pair ((Ty.int IntKind.i64).pair Ty.unit)) Ty.bool one9 (j, k', ()) true) (i2, j, ())).getD false then
                bif (getM ((Ty.int IntKind.i64).pair ((Ty.int IntKind.i64).pair Ty.unit)) Ty.bool to'9 (j, k', ())).getD false then
                  g16 (insM ((Ty.int IntKind.i64).pair ((Ty.int IntKind.i64).pair Ty.unit)) Ty.bool one9 (j, k', ()) true) (insM ((Ty.int IntKind.i64).pair ((Ty.int IntKind.i64).pair Ty.unit)) Ty.bool to'9 (i2, k', ()) true) (IntKind.i64.wrap (k' + 1))
                else
                  g16 (insM ((Ty.int IntKind.i64).pair ((Ty.int IntKind.i64).pair Ty.unit)) Ty.bool one9 (j, k', ()) true) to'9 (IntKind.i64.wrap (k' + 1))
              else
                g16 (insM ((Ty.int IntKind.i64).pair ((Ty.int IntKind.i64).pair Ty.unit)) Ty.bool one9 (j, k', ()) true) to'9 (IntKind.i64.wrap (k' + 1))
          else
            bif (getM ((Ty.int IntKind.i64).pair ((Ty.int IntKind.i64).pair Ty.unit)) Ty.bool (insM ((Ty.int IntKind.i64).pair ((Ty.int IntKind.i64).pair Ty.unit)) Ty.bool one9 (j, k', ()) true) (i2, j, ())).getD false then
              bif (getM ((Ty.int IntKind.i64).pair ((Ty.int IntKind.i64).pair Ty.unit)) Ty.bool to'9 (j, k', ())).getD false then
                g16 (insM ((Ty.int IntKind.i64).pair ((Ty.int IntKind.i64).pair Ty.unit)) Ty.bool one9 (j, k', ()) true) (insM ((Ty.int IntKind.i64).pair ((Ty.int IntKind.i64).pair Ty.unit)) Ty.bool to'9 (i2, k', ()) true) (IntKind.i64.wrap (k' + 1))
              else
                g16 (insM ((Ty.int IntKind.i64).pair ((Ty.int IntKind.i64).pair Ty.unit)) Ty.bool one9 (j, k', ()) true) to'9 (IntKind.i64.wrap (k' + 1))
            else
              g16 (insM ((Ty.int IntKind.i64).pair ((Ty.int IntKind.i64).pair Ty.unit)) Ty.bool one9 (j, k', ()) true) to'9 (IntKind.i64.wrap (k' + 1))
      else
        bif (getM ((Ty.int IntKind.i64).pair ((Ty.int IntKind.i64).pair Ty.unit)) Ty.bool one9 (i2, j, ())).getD false then
          bif (getM ((Ty.int IntKind.i64).pair ((Ty.int IntKind.i64).pair Ty.unit)) Ty.bool one9 (j, k', ())).getD false then
            bif (getM ((Ty.int IntKind.i64).pair ((Ty.int IntKind.i64).pair Ty.unit)) Ty.bool to'9 (i2, j, ())).getD false then
              bif (getM ((Ty.int IntKind.i64).pair ((Ty.int IntKind.i64).pair Ty.unit)) Ty.bool (insM ((Ty.int IntKind.i64).pair ((Ty.int IntKind.i64).pair Ty.unit)) Ty.bool one9 (i2, k', ()) true) (j, k', ())).getD false then
                bif (getM ((Ty.int IntKind.i64).pair ((Ty.int IntKind.i64).pair Ty.unit)) Ty.bool (insM ((Ty.int IntKind.i64).pair ((Ty.int IntKind.i64).pair Ty.unit)) Ty.bool one9 (i2, k', ()) true) (i2, j, ())).getD false then
                  bif (getM ((Ty.int IntKind.i64).pair ((Ty.int IntKind.i64).pair Ty.unit)) Ty.bool (insM ((Ty.int IntKind.i64).pair ((Ty.int IntKind.i64).pair Ty.unit)) Ty.bool to'9 (i2, k', ()) true) (j, k', ())).getD false then
                    g16 (insM ((Ty.int IntKind.i64).pair ((Ty.int IntKind.i64).pair Ty.unit)) Ty.bool one9 (i2, k', ()) true) (insM ((Ty.int IntKind.i64).pair ((Ty.int IntKind.i64).pair Ty.unit)) Ty.bool (insM ((Ty.int IntKind.i64).pair ((Ty.int IntKind.i64).pair Ty.unit)) Ty.bool to'9 (i2, k', ()) true) (i2, k', ()) true) (IntKind.i64.wrap (k' + 1))
                  else
                    g16 (insM ((Ty.int IntKind.i64).pair ((Ty.int IntKind.i64).pair Ty.unit)) Ty.bool one9 (i2, k', ()) true) (insM ((Ty.int IntKind.i64).pair ((Ty.int IntKind.i64).pair Ty.unit)) Ty.bool to'9 (i2, k', ()) true) (IntKind.i64.wrap (k' + 1))
                else
                  g16 (insM ((Ty.int IntKind.i64).pair ((Ty.int IntKind.i64).pair Ty.unit)) Ty.bool one9 (i2, k', ()) true) (insM ((Ty.int IntKind.i64).pair ((Ty.int IntKind.i64).pair Ty.unit)) Ty.bool to'9 (i2, k', ()) true) (IntKind.i64.wrap (k' + 1))
              else
                bif (getM ((Ty.int IntKind.i64).pair ((Ty.int IntKind.i64).pair Ty.unit)) Ty.bool (insM ((Ty.int IntKind.i64).pair ((Ty.int IntKind.i64).pair Ty.unit)) Ty.bool one9 (i2, k', ()) true) (i2, j, ())).getD false then
                  bif (getM ((Ty.int IntKind.i64).pair ((Ty.int IntKind.i64).pair Ty.unit)) Ty.bool to'9 (j, k', ())).getD false then
                    g16 (insM ((Ty.int IntKind.i64).pair ((Ty.int IntKind.i64).pair Ty.unit)) Ty.bool one9 (i2, k', ()) true) (insM ((Ty.int IntKind.i64).pair ((Ty.int IntKind.i64).pair Ty.unit)) Ty.bool to'9 (i2, k', ()) true) (IntKind.i64.wrap (k' + 1))
                  else
                    g16 (insM ((Ty.int IntKind.i64).pair ((Ty.int IntKind.i64).pair Ty.unit)) Ty.bool one9 (i2, k', ()) true) to'9 (IntKind.i64.wrap (k' + 1))
                else
                  g16 (insM ((Ty.int IntKind.i64).pair ((Ty.int IntKind.i64).pair Ty.unit)) Ty.bool one9 (i2, k', ()) true) to'9 (IntKind.i64.wrap (k' + 1))
            else
              bif (getM ((Ty.int IntKind.i64).pair ((Ty.int IntKind.i64).pair Ty.unit)) Ty.bool (insM ((Ty.int IntKind.i64).pair ((Ty.int IntKind.i64).pair Ty.unit)) Ty.bool one9 (i2, k', ()) true) (i2, j, ())).getD false then
                bif (getM ((Ty.int IntKind.i64).pair ((Ty.int IntKind.i64).pair Ty.unit)) Ty.bool to'9 (j, k', ())).getD false then
                  g16 (insM ((Ty.int IntKind.i64).pair ((Ty.int IntKind.i64).pair Ty.unit)) Ty.bool one9 (i2, k', ()) true) (insM ((Ty.int IntKind.i64).pair ((Ty.int IntKind.i64).pair Ty.unit)) Ty.bool to'9 (i2, k', ()) true) (IntKind.i64.wrap (k' + 1))
                else
                  g16 (insM ((Ty.int IntKind.i64).pair ((Ty.int IntKind.i64).pair Ty.unit)) Ty.bool one9 (i2, k', ()) true) to'9 (IntKind.i64.wrap (k' + 1))
              else
                g16 (insM ((Ty.int IntKind.i64).pair ((Ty.int IntKind.i64).pair Ty.unit)) Ty.bool one9 (i2, k', ()) true) to'9 (IntKind.i64.wrap (k' + 1))
          else
            bif (getM ((Ty.int IntKind.i64).pair ((Ty.int IntKind.i64).pair Ty.unit)) Ty.bool to'9 (i2, j, ())).getD false then
              bif (getM ((Ty.int IntKind.i64).pair ((Ty.int IntKind.i64).pair Ty.unit)) Ty.bool one9 (j, k', ())).getD false then
                bif (getM ((Ty.int IntKind.i64).pair ((Ty.int IntKind.i64).pair Ty.unit)) Ty.bool one9 (i2, j, ())).getD false then
                  bif (getM ((Ty.int IntKind.i64).pair ((Ty.int IntKind.i64).pair Ty.unit)) Ty.bool (insM ((Ty.int IntKind.i64).pair ((Ty.int IntKind.i64).pair Ty.unit)) Ty.bool to'9 (i2, k', ()) true) (j, k', ())).getD false then
                    g16 one9 (insM ((Ty.int IntKind.i64).pair ((Ty.int IntKind.i64).pair Ty.unit)) Ty.bool (insM ((Ty.int IntKind.i64).pair ((Ty.int IntKind.i64).pair Ty.unit)) Ty.bool to'9 (i2, k', ()) true) (i2, k', ()) true) (IntKind.i64.wrap (k' + 1))
                  else
                    g16 one9 (insM ((Ty.int IntKind.i64).pair ((Ty.int IntKind.i64).pair Ty.unit)) Ty.bool to'9 (i2, k', ()) true) (IntKind.i64.wrap (k' + 1))
                else
                  g16 one9 (insM ((Ty.int IntKind.i64).pair ((Ty.int IntKind.i64).pair Ty.unit)) Ty.bool to'9 (i2, k', ()) true) (IntKind.i64.wrap (k' + 1))
              else
                bif (getM ((Ty.int IntKind.i64).pair ((Ty.int IntKind.i64).pair Ty.unit)) Ty.bool one9 (i2, j, ())).getD false then
                  bif (getM ((Ty.int IntKind.i64).pair ((Ty.int IntKind.i64).pair Ty.unit)) Ty.bool to'9 (j, k', ())).getD false then
                    g16 one9 (insM ((Ty.int IntKind.i64).pair ((Ty.int IntKind.i64).pair Ty.unit)) Ty.bool to'9 (i2, k', ()) true) (IntKind.i64.wrap (k' + 1))
                  else
                    g16 one9 to'9 (IntKind.i64.wrap (k' + 1))
                else
                  g16 one9 to'9 (IntKind.i64.wrap (k' + 1))
            else
              bif (getM ((Ty.int IntKind.i64).pair ((Ty.int IntKind.i64).pair Ty.unit)) Ty.bool one9 (i2, j, ())).getD false then
                bif (getM ((Ty.int IntKind.i64).pair ((Ty.int IntKind.i64).pair Ty.unit)) Ty.bool to'9 (j, k', ())).getD false then
                  g16 one9 (insM ((Ty.int IntKind.i64).pair ((Ty.int IntKind.i64).pair Ty.unit)) Ty.bool to'9 (i2, k', ()) true) (IntKind.i64.wrap (k' + 1))
                else
                  g16 one9 to'9 (IntKind.i64.wrap (k' + 1))
              else
                g16 one9 to'9 (IntKind.i64.wrap (k' + 1))
        else
          bif (getM ((Ty.int IntKind.i64).pair ((Ty.int IntKind.i64).pair Ty.unit)) Ty.bool to'9 (i2, j, ())).getD false then
            bif (getM ((Ty.int IntKind.i64).pair ((Ty.int IntKind.i64).pair Ty.unit)) Ty.bool one9 (j, k', ())).getD false then
              bif (getM ((Ty.int IntKind.i64).pair ((Ty.int IntKind.i64).pair Ty.unit)) Ty.bool one9 (i2, j, ())).getD false then
                bif (getM ((Ty.int IntKind.i64).pair ((Ty.int IntKind.i64).pair Ty.unit)) Ty.bool (insM ((Ty.int IntKind.i64).pair ((Ty.int IntKind.i64).pair Ty.unit)) Ty.bool to'9 (i2, k', ()) true) (j, k', ())).getD false then
                  g16 one9 (insM ((Ty.int IntKind.i64).pair ((Ty.int IntKind.i64).pair Ty.unit)) Ty.bool (insM ((Ty.int IntKind.i64).pair ((Ty.int IntKind.i64).pair Ty.unit)) Ty.bool to'9 (i2, k', ()) true) (i2, k', ()) true) (IntKind.i64.wrap (k' + 1))
                else
                  g16 one9 (insM ((Ty.int IntKind.i64).pair ((Ty.int IntKind.i64).pair Ty.unit)) Ty.bool to'9 (i2, k', ()) true) (IntKind.i64.wrap (k' + 1))
              else
                g16 one9 (insM ((Ty.int IntKind.i64).pair ((Ty.int IntKind.i64).pair Ty.unit)) Ty.bool to'9 (i2, k', ()) true) (IntKind.i64.wrap (k' + 1))
            else
              bif (getM ((Ty.int IntKind.i64).pair ((Ty.int IntKind.i64).pair Ty.unit)) Ty.bool one9 (i2, j, ())).getD false then
                bif (getM ((Ty.int IntKind.i64).pair ((Ty.int IntKind.i64).pair Ty.unit)) Ty.bool to'9 (j, k', ())).getD false then
                  g16 one9 (insM ((Ty.int IntKind.i64).pair ((Ty.int IntKind.i64).pair Ty.unit)) Ty.bool to'9 (i2, k', ()) true) (IntKind.i64.wrap (k' + 1))
                else
                  g16 one9 to'9 (IntKind.i64.wrap (k' + 1))
              else
                g16 one9 to'9 (IntKind.i64.wrap (k' + 1))
          else
            bif (getM ((Ty.int IntKind.i64).pair ((Ty.int IntKind.i64).pair Ty.unit)) Ty.bool one9 (i2, j, ())).getD false then
              bif (getM ((Ty.int IntKind.i64).pair ((Ty.int IntKind.i64).pair Ty.unit)) Ty.bool to'9 (j, k', ())).getD false then
                g16 one9 (insM ((Ty.int IntKind.i64).pair ((Ty.int IntKind.i64).pair Ty.unit)) Ty.bool to'9 (i2, k', ()) true) (IntKind.i64.wrap (k' + 1))
              else
                g16 one9 to'9 (IntKind.i64.wrap (k' + 1))
            else
              g16 one9 to'9 (IntKind.i64.wrap (k' + 1))
    else
      bif (getM ((Ty.int IntKind.i64).pair ((Ty.int IntKind.i64).pair Ty.unit)) Ty.bool one9 (i2, j, ())).getD false then
        bif (getM ((Ty.int IntKind.i64).pair ((Ty.int IntKind.i64).pair Ty.unit)) Ty.bool one9 (j, k', ())).getD false then
          bif (getM ((Ty.int IntKind.i64).pair ((Ty.int IntKind.i64).pair Ty.unit)) Ty.bool to'9 (i2, j, ())).getD false then
            bif (getM ((Ty.int IntKind.i64).pair ((Ty.int IntKind.i64).pair Ty.unit)) Ty.bool (insM ((Ty.int IntKind.i64).pair ((Ty.int IntKind.i64).pair Ty.unit)) Ty.bool one9 (i2, k', ()) true) (j, k', ())).getD false then
              bif (getM ((Ty.int IntKind.i64).pair ((Ty.int IntKind.i64).pair Ty.unit)) Ty.bool (insM ((Ty.int IntKind.i64).pair ((Ty.int IntKind.i64).pair Ty.unit)) Ty.bool one9 (i2, k', ()) true) (i2, j, ())).getD false then
                bif (getM ((Ty.int IntKind.i64).pair ((Ty.int IntKind.i64).pair Ty.unit)) Ty.bool (insM ((Ty.int IntKind.i64).pair ((Ty.int IntKind.i64).pair Ty.unit)) Ty.bool to'9 (i2, k', ()) true) (j, k', ())).getD false then
                  g16 (insM ((Ty.int IntKind.i64).pair ((Ty.int IntKind.i64).pair Ty.unit)) Ty.bool one9 (i2, k', ()) true) (insM ((Ty.int IntKind.i64).pair ((Ty.int IntKind.i64).pair Ty.unit)) Ty.bool (insM ((Ty.int IntKind.i64).pair ((Ty.int IntKind.i64).pair Ty.unit)) Ty.bool to'9 (i2, k', ()) true) (i2, k', ()) true) (IntKind.i64.wrap (k' + 1))
                else
                  g16 (insM ((Ty.int IntKind.i64).pair ((Ty.int IntKind.i64).pair Ty.unit)) Ty.bool one9 (i2, k', ()) true) (insM ((Ty.int IntKind.i64).pair ((Ty.int IntKind.i64).pair Ty.unit)) Ty.bool to'9 (i2, k', ()) true) (IntKind.i64.wrap (k' + 1))
              else
                g16 (insM ((Ty.int IntKind.i64).pair ((Ty.int IntKind.i64).pair Ty.unit)) Ty.bool one9 (i2, k', ()) true) (insM ((Ty.int IntKind.i64).pair ((Ty.int IntKind.i64).pair Ty.unit)) Ty.bool to'9 (i2, k', ()) true) (IntKind.i64.wrap (k' + 1))
            else
              bif (getM ((Ty.int IntKind.i64).pair ((Ty.int IntKind.i64).pair Ty.unit)) Ty.bool (insM ((Ty.int IntKind.i64).pair ((Ty.int IntKind.i64).pair Ty.unit)) Ty.bool one9 (i2, k', ()) true) (i2, j, ())).getD false then
                bif (getM ((Ty.int IntKind.i64).pair ((Ty.int IntKind.i64).pair Ty.unit)) Ty.bool to'9 (j, k', ())).getD false then
                  g16 (insM ((Ty.int IntKind.i64).pair ((Ty.int IntKind.i64).pair Ty.unit)) Ty.bool one9 (i2, k', ()) true) (insM ((Ty.int IntKind.i64).pair ((Ty.int IntKind.i64).pair Ty.unit)) Ty.bool to'9 (i2, k', ()) true) (IntKind.i64.wrap (k' + 1))
                else
                  g16 (insM ((Ty.int IntKind.i64).pair ((Ty.int IntKind.i64).pair Ty.unit)) Ty.bool one9 (i2, k', ()) true) to'9 (IntKind.i64.wrap (k' + 1))
              else
                g16 (insM ((Ty.int IntKind.i64).pair ((Ty.int IntKind.i64).pair Ty.unit)) Ty.bool one9 (i2, k', ()) true) to'9 (IntKind.i64.wrap (k' + 1))
          else
            bif (getM ((Ty.int IntKind.i64).pair ((Ty.int IntKind.i64).pair Ty.unit)) Ty.bool (insM ((Ty.int IntKind.i64).pair ((Ty.int IntKind.i64).pair Ty.unit)) Ty.bool one9 (i2, k', ()) true) (i2, j, ())).getD false then
              bif (getM ((Ty.int IntKind.i64).pair ((Ty.int IntKind.i64).pair Ty.unit)) Ty.bool to'9 (j, k', ())).getD false then
                g16 (insM ((Ty.int IntKind.i64).pair ((Ty.int IntKind.i64).pair Ty.unit)) Ty.bool one9 (i2, k', ()) true) (insM ((Ty.int IntKind.i64).pair ((Ty.int IntKind.i64).pair Ty.unit)) Ty.bool to'9 (i2, k', ()) true) (IntKind.i64.wrap (k' + 1))
              else
                g16 (insM ((Ty.int IntKind.i64).pair ((Ty.int IntKind.i64).pair Ty.unit)) Ty.bool one9 (i2, k', ()) true) to'9 (IntKind.i64.wrap (k' + 1))
            else
              g16 (insM ((Ty.int IntKind.i64).pair ((Ty.int IntKind.i64).pair Ty.unit)) Ty.bool one9 (i2, k', ()) true) to'9 (IntKind.i64.wrap (k' + 1))
        else
          bif (getM ((Ty.int IntKind.i64).pair ((Ty.int IntKind.i64).pair Ty.unit)) Ty.bool to'9 (i2, j, ())).getD false then
            bif (getM ((Ty.int IntKind.i64).pair ((Ty.int IntKind.i64).pair Ty.unit)) Ty.bool one9 (j, k', ())).getD false then
              bif (getM ((Ty.int IntKind.i64).pair ((Ty.int IntKind.i64).pair Ty.unit)) Ty.bool one9 (i2, j, ())).getD false then
                bif (getM ((Ty.int IntKind.i64).pair ((Ty.int IntKind.i64).pair Ty.unit)) Ty.bool (insM ((Ty.int IntKind.i64).pair ((Ty.int IntKind.i64).pair Ty.unit)) Ty.bool to'9 (i2, k', ()) true) (j, k', ())).getD false then
                  g16 one9 (insM ((Ty.int IntKind.i64).pair ((Ty.int IntKind.i64).pair Ty.unit)) Ty.bool (insM ((Ty.int IntKind.i64).pair ((Ty.int IntKind.i64).pair Ty.unit)) Ty.bool to'9 (i2, k', ()) true) (i2, k', ()) true) (IntKind.i64.wrap (k' + 1))
                else
                  g16 one9 (insM ((Ty.int IntKind.i64).pair ((Ty.int IntKind.i64).pair Ty.unit)) Ty.bool to'9 (i2, k', ()) true) (IntKind.i64.wrap (k' + 1))
              else
                g16 one9 (insM ((Ty.int IntKind.i64).pair ((Ty.int IntKind.i64).pair Ty.unit)) Ty.bool to'9 (i2, k', ()) true) (IntKind.i64.wrap (k' + 1))
            else
              bif (getM ((Ty.int IntKind.i64).pair ((Ty.int IntKind.i64).pair Ty.unit)) Ty.bool one9 (i2, j, ())).getD false then
                bif (getM ((Ty.int IntKind.i64).pair ((Ty.int IntKind.i64).pair Ty.unit)) Ty.bool to'9 (j, k', ())).getD false then
                  g16 one9 (insM ((Ty.int IntKind.i64).pair ((Ty.int IntKind.i64).pair Ty.unit)) Ty.bool to'9 (i2, k', ()) true) (IntKind.i64.wrap (k' + 1))
                else
                  g16 one9 to'9 (IntKind.i64.wrap (k' + 1))
              else
                g16 one9 to'9 (IntKind.i64.wrap (k' + 1))
          else
            bif (getM ((Ty.int IntKind.i64).pair ((Ty.int IntKind.i64).pair Ty.unit)) Ty.bool one9 (i2, j, ())).getD false then
              bif (getM ((Ty.int IntKind.i64).pair ((Ty.int IntKind.i64).pair Ty.unit)) Ty.bool to'9 (j, k', ())).getD false then
                g16 one9 (insM ((Ty.int IntKind.i64).pair ((Ty.int IntKind.i64).pair Ty.unit)) Ty.bool to'9 (i2, k', ()) true) (IntKind.i64.wrap (k' + 1))
              else
                g16 one9 to'9 (IntKind.i64.wrap (k' + 1))
            else
              g16 one9 to'9 (IntKind.i64.wrap (k' + 1))
      else
        bif (getM ((Ty.int IntKind.i64).pair ((Ty.int IntKind.i64).pair Ty.unit)) Ty.bool to'9 (i2, j, ())).getD false then
          bif (getM ((Ty.int IntKind.i64).pair ((Ty.int IntKind.i64).pair Ty.unit)) Ty.bool one9 (j, k', ())).getD false then
            bif (getM ((Ty.int IntKind.i64).pair ((Ty.int IntKind.i64).pair Ty.unit)) Ty.bool one9 (i2, j, ())).getD false then
              bif (getM ((Ty.int IntKind.i64).pair ((Ty.int IntKind.i64).pair Ty.unit)) Ty.bool (insM ((Ty.int IntKind.i64).pair ((Ty.int IntKind.i64).pair Ty.unit)) Ty.bool to'9 (i2, k', ()) true) (j, k', ())).getD false then
                g16 one9 (insM ((Ty.int IntKind.i64).pair ((Ty.int IntKind.i64).pair Ty.unit)) Ty.bool (insM ((Ty.int IntKind.i64).pair ((Ty.int IntKind.i64).pair Ty.unit)) Ty.bool to'9 (i2, k', ()) true) (i2, k', ()) true) (IntKind.i64.wrap (k' + 1))
              else
                g16 one9 (insM ((Ty.int IntKind.i64).pair ((Ty.int IntKind.i64).pair Ty.unit)) Ty.bool to'9 (i2, k', ()) true) (IntKind.i64.wrap (k' + 1))
            else
              g16 one9 (insM ((Ty.int IntKind.i64).pair ((Ty.int IntKind.i64).pair Ty.unit)) Ty.bool to'9 (i2, k', ()) true) (IntKind.i64.wrap (k' + 1))
          else
            bif (getM ((Ty.int IntKind.i64).pair ((Ty.int IntKind.i64).pair Ty.unit)) Ty.bool one9 (i2, j, ())).getD false then
              bif (getM ((Ty.int IntKind.i64).pair ((Ty.int IntKind.i64).pair Ty.unit)) Ty.bool to'9 (j, k', ())).getD false then
                g16 one9 (insM ((Ty.int IntKind.i64).pair ((Ty.int IntKind.i64).pair Ty.unit)) Ty.bool to'9 (i2, k', ()) true) (IntKind.i64.wrap (k' + 1))
              else
                g16 one9 to'9 (IntKind.i64.wrap (k' + 1))
            else
              g16 one9 to'9 (IntKind.i64.wrap (k' + 1))
        else
          bif (getM ((Ty.int IntKind.i64).pair ((Ty.int IntKind.i64).pair Ty.unit)) Ty.bool one9 (i2, j, ())).getD false then
            bif (getM ((Ty.int IntKind.i64).pair ((Ty.int IntKind.i64).pair Ty.unit)) Ty.bool to'9 (j, k', ())).getD false then
              g16 one9 (insM ((Ty.int IntKind.i64).pair ((Ty.int IntKind.i64).pair Ty.unit)) Ty.bool to'9 (i2, k', ()) true) (IntKind.i64.wrap (k' + 1))
            else
              g16 one9 to'9 (IntKind.i64.wrap (k' + 1))
          else
            g16 one9 to'9 (IntKind.i64.wrap (k' + 1))
  else
    g14 one9 to'9 (IntKind.i64.wrap (j + 1))
def ref_Joined_b18 (nf : Nat) (vars : Int) (g18 : List ((Int × Int × Unit) × Bool) → List Int → Int → Option (List Int × Unit)) (to'10 : List ((Int × Int × Unit) × Bool)) (out : List Int) (i3 : Int) : Option (List Int × Unit) :=
  bif decide (i3 < vars) then
    Option.bind (ref_pointees_f nf vars to'10 i3) fun r4 =>
    Option.bind (ref_Set_f nf r4.fst) fun r5 =>
    bif bimp false ![r5.fst].isEmpty && (out.length + [r5.fst].length).ble lim then
      g18 to'10 (out ++ [r5.fst]) (IntKind.i64.wrap (i3 + 1))
    else
      none
  else
    some ((out, ()))
def ref_Joined_p (nf : Nat) (l0 : Int → List (Int × Int × Int × Unit) → List ((Int × Int × Unit) × Bool) → List ((Int × Int × Unit) × Bool) → Int → Option (List Int × Unit)) (vars : Int) (l' : List (Int × Int × Int × Unit)) : Option (List Int × Unit) :=
  l0 vars l' [] [] 0
def ref_Joined_l18 (nf : Nat) (vars : Int) : Nat → List ((Int × Int × Unit) × Bool) → List Int → Int → Option (List Int × Unit)
  | 0, _, _, _ => none
  | fu + 1, to'10, out, i3 => ref_Joined_b18 nf  vars  (ref_Joined_l18 nf vars  fu) to'10 out i3
def ref_Joined_l16 (nf : Nat) (vars : Int) (l' : List (Int × Int × Int × Unit)) (one2 : List ((Int × Int × Unit) × Bool)) (to'2 : List ((Int × Int × Unit) × Bool)) (i2 : Int) (j : Int) (g14 : List ((Int × Int × Unit) × Bool) → List ((Int × Int × Unit) × Bool) → Int → Option (List Int × Unit)) (g12 : List ((Int × Int × Unit) × Bool) → List ((Int × Int × Unit) × Bool) → Int → Option (List Int × Unit)) (g2 : List ((Int × Int × Unit) × Bool) → List ((Int × Int × Unit) × Bool) → Option (List Int × Unit)) : Nat → List ((Int × Int × Unit) × Bool) → List ((Int × Int × Unit) × Bool) → Int → Option (List Int × Unit)
  | 0, _, _, _ => none
  | fu + 1, one9, to'9, k' => ref_Joined_b16 nf  vars l' one2 to'2 i2 j g14 g12 g2 (ref_Joined_l16 nf vars l' one2 to'2 i2 j g14 g12 g2 fu) one9 to'9 k'
def ref_Joined_l14 (nf : Nat) (vars : Int) (l' : List (Int × Int × Int × Unit)) (one2 : List ((Int × Int × Unit) × Bool)) (to'2 : List ((Int × Int × Unit) × Bool)) (i2 : Int) (g12 : List ((Int × Int × Unit) × Bool) → List ((Int × Int × Unit) × Bool) → Int → Option (List Int × Unit)) (g2 : List ((Int × Int × Unit) × Bool) → List ((Int × Int × Unit) × Bool) → Option (List Int × Unit)) : Nat → List ((Int × Int × Unit) × Bool) → List ((Int × Int × Unit) × Bool) → Int → Option (List Int × Unit)
  | 0, _, _, _ => none
  | fu + 1, one8, to'8, j => ref_Joined_b14 nf (fun _ _ _ _ _ p5 v0 v1 v2 => ref_Joined_l16 nf vars l' one2 to'2 i2 p5 (fun one8 to'8 j => ref_Joined_l14 nf vars l' one2 to'2 i2 g12 g2 fu one8 to'8 j) g12 g2 nf v0 v1 v2) vars l' one2 to'2 i2 g12 g2 (ref_Joined_l14 nf vars l' one2 to'2 i2 g12 g2 fu) one8 to'8 j
def ref_Joined_l12 (nf : Nat) (vars : Int) (l' : List (Int × Int × Int × Unit)) (one2 : List ((Int × Int × Unit) × Bool)) (to'2 : List ((Int × Int × Unit) × Bool)) (g2 : List ((Int × Int × Unit) × Bool) → List ((Int × Int × Unit) × Bool) → Option (List Int × Unit)) : Nat → List ((Int × Int × Unit) × Bool) → List ((Int × Int × Unit) × Bool) → Int → Option (List Int × Unit)
  | 0, _, _, _ => none
  | fu + 1, one7, to'7, i2 => ref_Joined_b12 nf (fun _ _ _ _ p4 v0 v1 v2 => ref_Joined_l14 nf vars l' one2 to'2 p4 (fun one7 to'7 i2 => ref_Joined_l12 nf vars l' one2 to'2 g2 fu one7 to'7 i2) g2 nf v0 v1 v2) (fun _ v0 v1 v2 => ref_Joined_l18 nf vars  nf v0 v1 v2) vars l' one2 to'2 g2 (ref_Joined_l12 nf vars l' one2 to'2 g2 fu) one7 to'7 i2
def ref_Joined_l10 (nf : Nat) (vars : Int) (l' : List (Int × Int × Int × Unit)) (one2 : List ((Int × Int × Unit) × Bool)) (to'2 : List ((Int × Int × Unit) × Bool)) (x : Int) (a : List Int) (t86 : Int) (t41 : Int) (t85 : Int) (b : List Int) (g8 : List ((Int × Int × Unit) × Bool) → List ((Int × Int × Unit) × Bool) → Int × Int × Int × Unit → List Int → List Int → Int → Int → Option (List Int × Unit)) (g6 : List ((Int × Int × Unit) × Bool) → List ((Int × Int × Unit) × Bool) → Int × Int × Int × Unit → Int → Option (List Int × Unit)) (g4 : List ((Int × Int × Unit) × Bool) → List ((Int × Int × Unit) × Bool) → Int → Option (List Int × Unit)) (g2 : List ((Int × Int × Unit) × Bool) → List ((Int × Int × Unit) × Bool) → Option (List Int × Unit)) : Nat → List ((Int × Int × Unit) × Bool) → List ((Int × Int × Unit) × Bool) → Int × Int × Int × Unit → List Int → List Int → Int → Option (List Int × Unit)
  | 0, _, _, _, _, _, _ => none
  | fu + 1, one6, to'6, p3, a2, b2, t92 => ref_Joined_b10 nf  vars l' one2 to'2 x a t86 t41 t85 b g8 g6 g4 g2 (ref_Joined_l10 nf vars l' one2 to'2 x a t86 t41 t85 b g8 g6 g4 g2 fu) one6 to'6 p3 a2 b2 t92
def ref_Joined_l8 (nf : Nat) (vars : Int) (l' : List (Int × Int × Int × Unit)) (one2 : List ((Int × Int × Unit) × Bool)) (to'2 : List ((Int × Int × Unit) × Bool)) (x : Int) (t41 : Int) (g6 : List ((Int × Int × Unit) × Bool) → List ((Int × Int × Unit) × Bool) → Int × Int × Int × Unit → Int → Option (List Int × Unit)) (g4 : List ((Int × Int × Unit) × Bool) → List ((Int × Int × Unit) × Bool) → Int → Option (List Int × Unit)) (g2 : List ((Int × Int × Unit) × Bool) → List ((Int × Int × Unit) × Bool) → Option (List Int × Unit)) : Nat → List ((Int × Int × Unit) × Bool) → List ((Int × Int × Unit) × Bool) → Int × Int × Int × Unit → List Int → List Int → Int → Int → Option (List Int × Unit)
  | 0, _, _, _, _, _, _, _ => none
  | fu + 1, one5, to'5, p2, a, b, t85, t86 => ref_Joined_b8 nf (fun _ _ _ _ _ p5 p6 _ p8 p9 v0 v1 v2 v3 v4 v5 => ref_Joined_l10 nf vars l' one2 to'2 x p5 p6 t41 p8 p9 (fun one5 to'5 p2 a b t85 t86 => ref_Joined_l8 nf vars l' one2 to'2 x t41 g6 g4 g2 fu one5 to'5 p2 a b t85 t86) g6 g4 g2 nf v0 v1 v2 v3 v4 v5) vars l' one2 to'2 x t41 g6 g4 g2 (ref_Joined_l8 nf vars l' one2 to'2 x t41 g6 g4 g2 fu) one5 to'5 p2 a b t85 t86
def ref_Joined_l6 (nf : Nat) (vars : Int) (l' : List (Int × Int × Int × Unit)) (one2 : List ((Int × Int × Unit) × Bool)) (to'2 : List ((Int × Int × Unit) × Bool)) (t41 : Int) (g4 : List ((Int × Int × Unit) × Bool) → List ((Int × Int × Unit) × Bool) → Int → Option (List Int × Unit)) (g2 : List ((Int × Int × Unit) × Bool) → List ((Int × Int × Unit) × Bool) → Option (List Int × Unit)) : Nat → List ((Int × Int × Unit) × Bool) → List ((Int × Int × Unit) × Bool) → Int × Int × Int × Unit → Int → Option (List Int × Unit)
  | 0, _, _, _, _ => none
  | fu + 1, one4, to'4, p, x => ref_Joined_b6 nf (fun _ _ _ _ p4 _ v0 v1 v2 v3 v4 v5 v6 => ref_Joined_l8 nf vars l' one2 to'2 p4 t41 (fun one4 to'4 p x => ref_Joined_l6 nf vars l' one2 to'2 t41 g4 g2 fu one4 to'4 p x) g4 g2 nf v0 v1 v2 v3 v4 v5 v6) vars l' one2 to'2 t41 g4 g2 (ref_Joined_l6 nf vars l' one2 to'2 t41 g4 g2 fu) one4 to'4 p x
def ref_Joined_l4 (nf : Nat) (vars : Int) (l' : List (Int × Int × Int × Unit)) (one2 : List ((Int × Int × Unit) × Bool)) (to'2 : List ((Int × Int × Unit) × Bool)) (g2 : List ((Int × Int × Unit) × Bool) → List ((Int × Int × Unit) × Bool) → Option (List Int × Unit)) : Nat → List ((Int × Int × Unit) × Bool) → List ((Int × Int × Unit) × Bool) → Int → Option (List Int × Unit)
  | 0, _, _, _ => none
  | fu + 1, one3, to'3, t41 => ref_Joined_b4 nf (fun _ _ _ _ p4 v0 v1 v2 v3 => ref_Joined_l6 nf vars l' one2 to'2 p4 (fun one3 to'3 t41 => ref_Joined_l4 nf vars l' one2 to'2 g2 fu one3 to'3 t41) g2 nf v0 v1 v2 v3) (fun _ _ _ _ v0 v1 v2 => ref_Joined_l12 nf vars l' one2 to'2 g2 nf v0 v1 v2) vars l' one2 to'2 g2 (ref_Joined_l4 nf vars l' one2 to'2 g2 fu) one3 to'3 t41
def ref_Joined_l2 (nf : Nat) (vars : Int) (l' : List (Int × Int × Int × Unit)) : Nat → List ((Int × Int × Unit) × Bool) → List ((Int × Int × Unit) × Bool) → Option (List Int × Unit)
  | 0, _, _ => none
  | fu + 1, one2, to'2 => ref_Joined_b2 nf (fun _ _ p2 p3 v0 v1 v2 => ref_Joined_l4 nf vars l' p2 p3 (fun one2 to'2 => ref_Joined_l2 nf vars l'  fu one2 to'2) nf v0 v1 v2) vars l'  (ref_Joined_l2 nf vars l'  fu) one2 to'2
def ref_Joined_l0 (nf : Nat) (vars : Int) (l' : List (Int × Int × Int × Unit)) : Nat → List ((Int × Int × Unit) × Bool) → List ((Int × Int × Unit) × Bool) → Int → Option (List Int × Unit)
  | 0, _, _, _ => none
  | fu + 1, one, to', i => ref_Joined_b0 nf (fun _ _ v0 v1 => ref_Joined_l2 nf vars l'  nf v0 v1) vars l'  (ref_Joined_l0 nf vars l'  fu) one to' i
def ref_Joined_f (nf : Nat) (vars : Int) (l' : List (Int × Int × Int × Unit)) : Option (List Int × Unit) := ref_Joined_p nf (fun p0 p1 v0 v1 v2 => ref_Joined_l0 nf p0 p1 nf v0 v1 v2) vars l'
noncomputable def ref_Joined_L0 (nf : Nat) : LC (List Int × Unit) := theL (findL tab (ref_Joined_phi nf) (fun _ F => iter nf F) ref_Joined_keep 0 0 (codeOf Try.f32) (fin tab [((Ty.int IntKind.u32).sl, Md.own false (Md.bor false false))] (resL ([]) Try.f32)) (fun _ _ => none) (fin tab [((Ty.int IntKind.u32).sl, Md.own false (Md.bor false false))] (resL ([]) Try.f32)))
def ref_Joined_m0 (vars : Int) (l' : List (Int × Int × Int × Unit)) (one : List ((Int × Int × Unit) × Bool)) (to' : List ((Int × Int × Unit) × Bool)) (i : Int) : St := ⟨fresh, [(0, AV.v (Ty.int IntKind.i64) (Md.bor false true) vars), (1, AV.v ((Ty.int IntKind.i64).pair ((Ty.int IntKind.i64).pair ((Ty.int IntKind.i64).pair Ty.unit))).sl (Md.bor true false) l'), (5, AV.ow 500005 (((Ty.int IntKind.i64).pair ((Ty.int IntKind.i64).pair Ty.unit)).mp Ty.bool) (Md.own true (Md.bor false false)) one), (6, AV.ow 500006 (((Ty.int IntKind.i64).pair ((Ty.int IntKind.i64).pair Ty.unit)).mp Ty.bool) (Md.own true (Md.bor false false)) to'), (7, AV.v (Ty.int IntKind.i64) (Md.bor false true) i), (23, AV.dead), (24, AV.dead), (72, AV.dead), (80, AV.dead), (215, AV.dead)]⟩
noncomputable def ref_Joined_L2 (nf : Nat) : LC (List Int × Unit) := theL (findL tab (ref_Joined_phi nf) (fun _ F => iter nf F) ref_Joined_keep 2 0 (codeOf Try.f32) (fin tab [((Ty.int IntKind.u32).sl, Md.own false (Md.bor false false))] (resL ([]) Try.f32)) (fun _ _ => none) (fin tab [((Ty.int IntKind.u32).sl, Md.own false (Md.bor false false))] (resL ([]) Try.f32)))
def ref_Joined_m2 (vars : Int) (l' : List (Int × Int × Int × Unit)) (one2 : List ((Int × Int × Unit) × Bool)) (to'2 : List ((Int × Int × Unit) × Bool)) : St := ⟨fresh, [(0, AV.v (Ty.int IntKind.i64) (Md.bor false true) vars), (1, AV.v ((Ty.int IntKind.i64).pair ((Ty.int IntKind.i64).pair ((Ty.int IntKind.i64).pair Ty.unit))).sl (Md.bor true false) l'), (5, AV.ow 500005 (((Ty.int IntKind.i64).pair ((Ty.int IntKind.i64).pair Ty.unit)).mp Ty.bool) (Md.own true (Md.bor false false)) one2), (6, AV.ow 500006 (((Ty.int IntKind.i64).pair ((Ty.int IntKind.i64).pair Ty.unit)).mp Ty.bool) (Md.own true (Md.bor false false)) to'2), (23, AV.dead), (24, AV.dead), (72, AV.dead), (80, AV.dead), (215, AV.dead)]⟩
noncomputable def ref_Joined_L4 (nf : Nat) (G2 : St → Option (List Int × Unit)) : LC (List Int × Unit) := theL (findL tab (ref_Joined_phi nf) (fun _ F => iter nf F) ref_Joined_keep 4 2 (ref_Joined_L2 nf ).c (fun st => norm (ref_Joined_keep 2) st G2) (ref_Joined_L2 nf ).Kx (ref_Joined_L2 nf ).Kr)
def ref_Joined_m4 (vars : Int) (l' : List (Int × Int × Int × Unit)) (one2 : List ((Int × Int × Unit) × Bool)) (to'2 : List ((Int × Int × Unit) × Bool)) (one3 : List ((Int × Int × Unit) × Bool)) (to'3 : List ((Int × Int × Unit) × Bool)) (t41 : Int) : St := ⟨fresh, [(0, AV.v (Ty.int IntKind.i64) (Md.bor false true) vars), (1, AV.v ((Ty.int IntKind.i64).pair ((Ty.int IntKind.i64).pair ((Ty.int IntKind.i64).pair Ty.unit))).sl (Md.bor true false) l'), (5, AV.ow 500005 (((Ty.int IntKind.i64).pair ((Ty.int IntKind.i64).pair Ty.unit)).mp Ty.bool) (Md.own true (Md.bor false false)) one3), (6, AV.ow 500006 (((Ty.int IntKind.i64).pair ((Ty.int IntKind.i64).pair Ty.unit)).mp Ty.bool) (Md.own true (Md.bor false false)) to'3), (8, AV.v (Ty.int IntKind.i64) (Md.bor false true) (IntKind.i64.wrap ((↑one2.length : Int) + (↑to'2.length : Int)))), (23, AV.dead), (24, AV.dead), (39, AV.v ((Ty.int IntKind.i64).pair ((Ty.int IntKind.i64).pair ((Ty.int IntKind.i64).pair Ty.unit))).sl (Md.bor true false) l'), (40, AV.v (Ty.int IntKind.i64) (Md.bor false true) (↑l'.length : Int)), (41, AV.v (Ty.int IntKind.i64) (Md.bor false true) t41), (72, AV.dead), (80, AV.dead), (215, AV.dead)]⟩
noncomputable def ref_Joined_L6 (nf : Nat) (G2 : St → Option (List Int × Unit)) (G4 : St → Option (List Int × Unit)) : LC (List Int × Unit) := theL (findL tab (ref_Joined_phi nf) (fun _ F => iter nf F) ref_Joined_keep 6 4 (ref_Joined_L4 nf G2).c (fun st => norm (ref_Joined_keep 4) st G4) (ref_Joined_L4 nf G2).Kx (ref_Joined_L4 nf G2).Kr)
def ref_Joined_m6 (vars : Int) (l' : List (Int × Int × Int × Unit)) (one2 : List ((Int × Int × Unit) × Bool)) (to'2 : List ((Int × Int × Unit) × Bool)) (t41 : Int) (one4 : List ((Int × Int × Unit) × Bool)) (to'4 : List ((Int × Int × Unit) × Bool)) (p : Int × Int × Int × Unit) (x : Int) : St := ⟨fresh, [(0, AV.v (Ty.int IntKind.i64) (Md.bor false true) vars), (1, AV.v ((Ty.int IntKind.i64).pair ((Ty.int IntKind.i64).pair ((Ty.int IntKind.i64).pair Ty.unit))).sl (Md.bor true false) l'), (5, AV.ow 500005 (((Ty.int IntKind.i64).pair ((Ty.int IntKind.i64).pair Ty.unit)).mp Ty.bool) (Md.own true (Md.bor false false)) one4), (6, AV.ow 500006 (((Ty.int IntKind.i64).pair ((Ty.int IntKind.i64).pair Ty.unit)).mp Ty.bool) (Md.own true (Md.bor false false)) to'4), (8, AV.v (Ty.int IntKind.i64) (Md.bor false true) (IntKind.i64.wrap ((↑one2.length : Int) + (↑to'2.length : Int)))), (10, AV.box 10 500010 ((Ty.int IntKind.i64).pair ((Ty.int IntKind.i64).pair ((Ty.int IntKind.i64).pair Ty.unit))) (Md.bor true false) p), (11, AV.v (Ty.int IntKind.i64) (Md.bor false true) x), (23, AV.dead), (24, AV.dead), (39, AV.v ((Ty.int IntKind.i64).pair ((Ty.int IntKind.i64).pair ((Ty.int IntKind.i64).pair Ty.unit))).sl (Md.bor true false) l'), (40, AV.v (Ty.int IntKind.i64) (Md.bor false true) (↑l'.length : Int)), (41, AV.v (Ty.int IntKind.i64) (Md.bor false true) t41), (72, AV.dead), (80, AV.dead), (215, AV.dead)]⟩
noncomputable def ref_Joined_L8 (nf : Nat) (G2 : St → Option (List Int × Unit)) (G4 : St → Option (List Int × Unit)) (G6 : St → Option (List Int × Unit)) : LC (List Int × Unit) := theL (findL tab (ref_Joined_phi nf) (fun _ F => iter nf F) ref_Joined_keep 8 6 (ref_Joined_L6 nf G2 G4).c (fun st => norm (ref_Joined_keep 6) st G6) (ref_Joined_L6 nf G2 G4).Kx (ref_Joined_L6 nf G2 G4).Kr)
def ref_Joined_m8 (vars : Int) (l' : List (Int × Int × Int × Unit)) (one2 : List ((Int × Int × Unit) × Bool)) (to'2 : List ((Int × Int × Unit) × Bool)) (x : Int) (t41 : Int) (one5 : List ((Int × Int × Unit) × Bool)) (to'5 : List ((Int × Int × Unit) × Bool)) (p2 : Int × Int × Int × Unit) (a : List Int) (b : List Int) (t85 : Int) (t86 : Int) : St := ⟨fresh, [(0, AV.v (Ty.int IntKind.i64) (Md.bor false true) vars), (1, AV.v ((Ty.int IntKind.i64).pair ((Ty.int IntKind.i64).pair ((Ty.int IntKind.i64).pair Ty.unit))).sl (Md.bor true false) l'), (5, AV.ow 500005 (((Ty.int IntKind.i64).pair ((Ty.int IntKind.i64).pair Ty.unit)).mp Ty.bool) (Md.own true (Md.bor false false)) one5), (6, AV.ow 500006 (((Ty.int IntKind.i64).pair ((Ty.int IntKind.i64).pair Ty.unit)).mp Ty.bool) (Md.own true (Md.bor false false)) to'5), (8, AV.v (Ty.int IntKind.i64) (Md.bor false true) (IntKind.i64.wrap ((↑one2.length : Int) + (↑to'2.length : Int)))), (10, AV.box 10 500010 ((Ty.int IntKind.i64).pair ((Ty.int IntKind.i64).pair ((Ty.int IntKind.i64).pair Ty.unit))) (Md.bor true false) p2), (11, AV.v (Ty.int IntKind.i64) (Md.bor false true) x), (12, AV.ow 500012 (Ty.int IntKind.i64).sl (Md.own false (Md.bor false false)) a), (13, AV.ow 500013 (Ty.int IntKind.i64).sl (Md.own false (Md.bor false false)) b), (23, AV.dead), (24, AV.dead), (39, AV.v ((Ty.int IntKind.i64).pair ((Ty.int IntKind.i64).pair ((Ty.int IntKind.i64).pair Ty.unit))).sl (Md.bor true false) l'), (40, AV.v (Ty.int IntKind.i64) (Md.bor false true) (↑l'.length : Int)), (41, AV.v (Ty.int IntKind.i64) (Md.bor false true) t41), (61, AV.dead), (64, AV.dead), (72, AV.dead), (80, AV.dead), (84, AV.al 12 500012 []), (85, AV.v (Ty.int IntKind.i64) (Md.bor false true) t85), (86, AV.v (Ty.int IntKind.i64) (Md.bor false true) t86), (215, AV.dead)]⟩
noncomputable def ref_Joined_L10 (nf : Nat) (G2 : St → Option (List Int × Unit)) (G4 : St → Option (List Int × Unit)) (G6 : St → Option (List Int × Unit)) (G8 : St → Option (List Int × Unit)) : LC (List Int × Unit) := theL (findL tab (ref_Joined_phi nf) (fun _ F => iter nf F) ref_Joined_keep 10 8 (ref_Joined_L8 nf G2 G4 G6).c (fun st => norm (ref_Joined_keep 8) st G8) (ref_Joined_L8 nf G2 G4 G6).Kx (ref_Joined_L8 nf G2 G4 G6).Kr)
def ref_Joined_m10 (vars : Int) (l' : List (Int × Int × Int × Unit)) (one2 : List ((Int × Int × Unit) × Bool)) (to'2 : List ((Int × Int × Unit) × Bool)) (x : Int) (a : List Int) (t86 : Int) (t41 : Int) (t85 : Int) (b : List Int) (one6 : List ((Int × Int × Unit) × Bool)) (to'6 : List ((Int × Int × Unit) × Bool)) (p3 : Int × Int × Int × Unit) (a2 : List Int) (b2 : List Int) (t92 : Int) : St := ⟨fresh, [(0, AV.v (Ty.int IntKind.i64) (Md.bor false true) vars), (1, AV.v ((Ty.int IntKind.i64).pair ((Ty.int IntKind.i64).pair ((Ty.int IntKind.i64).pair Ty.unit))).sl (Md.bor true false) l'), (5, AV.ow 500005 (((Ty.int IntKind.i64).pair ((Ty.int IntKind.i64).pair Ty.unit)).mp Ty.bool) (Md.own true (Md.bor false false)) one6), (6, AV.ow 500006 (((Ty.int IntKind.i64).pair ((Ty.int IntKind.i64).pair Ty.unit)).mp Ty.bool) (Md.own true (Md.bor false false)) to'6), (8, AV.v (Ty.int IntKind.i64) (Md.bor false true) (IntKind.i64.wrap ((↑one2.length : Int) + (↑to'2.length : Int)))), (10, AV.box 10 500010 ((Ty.int IntKind.i64).pair ((Ty.int IntKind.i64).pair ((Ty.int IntKind.i64).pair Ty.unit))) (Md.bor true false) p3), (11, AV.v (Ty.int IntKind.i64) (Md.bor false true) x), (12, AV.ow 500012 (Ty.int IntKind.i64).sl (Md.own false (Md.bor false false)) a2), (13, AV.ow 500013 (Ty.int IntKind.i64).sl (Md.own false (Md.bor false false)) b2), (15, AV.v (Ty.int IntKind.i64) (Md.bor false true) (a.getD t86.toNat 0)), (23, AV.dead), (24, AV.dead), (39, AV.v ((Ty.int IntKind.i64).pair ((Ty.int IntKind.i64).pair ((Ty.int IntKind.i64).pair Ty.unit))).sl (Md.bor true false) l'), (40, AV.v (Ty.int IntKind.i64) (Md.bor false true) (↑l'.length : Int)), (41, AV.v (Ty.int IntKind.i64) (Md.bor false true) t41), (61, AV.dead), (64, AV.dead), (72, AV.dead), (80, AV.dead), (84, AV.al 12 500012 []), (85, AV.v (Ty.int IntKind.i64) (Md.bor false true) t85), (86, AV.v (Ty.int IntKind.i64) (Md.bor false true) t86), (90, AV.al 13 500013 []), (91, AV.v (Ty.int IntKind.i64) (Md.bor false true) (↑b.length : Int)), (92, AV.v (Ty.int IntKind.i64) (Md.bor false true) t92), (215, AV.dead)]⟩
noncomputable def ref_Joined_L12 (nf : Nat) (G2 : St → Option (List Int × Unit)) : LC (List Int × Unit) := theL (findL tab (ref_Joined_phi nf) (fun _ F => iter nf F) ref_Joined_keep 12 2 (ref_Joined_L2 nf ).c (fun st => norm (ref_Joined_keep 2) st G2) (ref_Joined_L2 nf ).Kx (ref_Joined_L2 nf ).Kr)
def ref_Joined_m12 (vars : Int) (l' : List (Int × Int × Int × Unit)) (one2 : List ((Int × Int × Unit) × Bool)) (to'2 : List ((Int × Int × Unit) × Bool)) (one7 : List ((Int × Int × Unit) × Bool)) (to'7 : List ((Int × Int × Unit) × Bool)) (i2 : Int) : St := ⟨fresh, [(0, AV.v (Ty.int IntKind.i64) (Md.bor false true) vars), (1, AV.v ((Ty.int IntKind.i64).pair ((Ty.int IntKind.i64).pair ((Ty.int IntKind.i64).pair Ty.unit))).sl (Md.bor true false) l'), (5, AV.ow 500005 (((Ty.int IntKind.i64).pair ((Ty.int IntKind.i64).pair Ty.unit)).mp Ty.bool) (Md.own true (Md.bor false false)) one7), (6, AV.ow 500006 (((Ty.int IntKind.i64).pair ((Ty.int IntKind.i64).pair Ty.unit)).mp Ty.bool) (Md.own true (Md.bor false false)) to'7), (8, AV.v (Ty.int IntKind.i64) (Md.bor false true) (IntKind.i64.wrap ((↑one2.length : Int) + (↑to'2.length : Int)))), (18, AV.v (Ty.int IntKind.i64) (Md.bor false true) i2), (23, AV.dead), (24, AV.dead), (72, AV.dead), (80, AV.dead), (215, AV.dead)]⟩
noncomputable def ref_Joined_L14 (nf : Nat) (G2 : St → Option (List Int × Unit)) (G12 : St → Option (List Int × Unit)) : LC (List Int × Unit) := theL (findL tab (ref_Joined_phi nf) (fun _ F => iter nf F) ref_Joined_keep 14 12 (ref_Joined_L12 nf G2).c (fun st => norm (ref_Joined_keep 12) st G12) (ref_Joined_L12 nf G2).Kx (ref_Joined_L12 nf G2).Kr)
def ref_Joined_m14 (vars : Int) (l' : List (Int × Int × Int × Unit)) (one2 : List ((Int × Int × Unit) × Bool)) (to'2 : List ((Int × Int × Unit) × Bool)) (i2 : Int) (one8 : List ((Int × Int × Unit) × Bool)) (to'8 : List ((Int × Int × Unit) × Bool)) (j : Int) : St := ⟨fresh, [(0, AV.v (Ty.int IntKind.i64) (Md.bor false true) vars), (1, AV.v ((Ty.int IntKind.i64).pair ((Ty.int IntKind.i64).pair ((Ty.int IntKind.i64).pair Ty.unit))).sl (Md.bor true false) l'), (5, AV.ow 500005 (((Ty.int IntKind.i64).pair ((Ty.int IntKind.i64).pair Ty.unit)).mp Ty.bool) (Md.own true (Md.bor false false)) one8), (6, AV.ow 500006 (((Ty.int IntKind.i64).pair ((Ty.int IntKind.i64).pair Ty.unit)).mp Ty.bool) (Md.own true (Md.bor false false)) to'8), (8, AV.v (Ty.int IntKind.i64) (Md.bor false true) (IntKind.i64.wrap ((↑one2.length : Int) + (↑to'2.length : Int)))), (18, AV.v (Ty.int IntKind.i64) (Md.bor false true) i2), (19, AV.v (Ty.int IntKind.i64) (Md.bor false true) j), (23, AV.dead), (24, AV.dead), (72, AV.dead), (80, AV.dead), (215, AV.dead)]⟩
noncomputable def ref_Joined_L16 (nf : Nat) (G2 : St → Option (List Int × Unit)) (G12 : St → Option (List Int × Unit)) (G14 : St → Option (List Int × Unit)) : LC (List Int × Unit) := theL (findL tab (ref_Joined_phi nf) (fun _ F => iter nf F) ref_Joined_keep 16 14 (ref_Joined_L14 nf G2 G12).c (fun st => norm (ref_Joined_keep 14) st G14) (ref_Joined_L14 nf G2 G12).Kx (ref_Joined_L14 nf G2 G12).Kr)
def ref_Joined_m16 (vars : Int) (l' : List (Int × Int × Int × Unit)) (one2 : List ((Int × Int × Unit) × Bool)) (to'2 : List ((Int × Int × Unit) × Bool)) (i2 : Int) (j : Int) (one9 : List ((Int × Int × Unit) × Bool)) (to'9 : List ((Int × Int × Unit) × Bool)) (k' : Int) : St := ⟨fresh, [(0, AV.v (Ty.int IntKind.i64) (Md.bor false true) vars), (1, AV.v ((Ty.int IntKind.i64).pair ((Ty.int IntKind.i64).pair ((Ty.int IntKind.i64).pair Ty.unit))).sl (Md.bor true false) l'), (5, AV.ow 500005 (((Ty.int IntKind.i64).pair ((Ty.int IntKind.i64).pair Ty.unit)).mp Ty.bool) (Md.own true (Md.bor false false)) one9), (6, AV.ow 500006 (((Ty.int IntKind.i64).pair ((Ty.int IntKind.i64).pair Ty.unit)).mp Ty.bool) (Md.own true (Md.bor false false)) to'9), (8, AV.v (Ty.int IntKind.i64) (Md.bor false true) (IntKind.i64.wrap ((↑one2.length : Int) + (↑to'2.length : Int)))), (18, AV.v (Ty.int IntKind.i64) (Md.bor false true) i2), (19, AV.v (Ty.int IntKind.i64) (Md.bor false true) j), (20, AV.v (Ty.int IntKind.i64) (Md.bor false true) k'), (23, AV.dead), (24, AV.dead), (72, AV.dead), (80, AV.dead), (215, AV.dead)]⟩
noncomputable def ref_Joined_L18 (nf : Nat) : LC (List Int × Unit) := theL (findL tab (ref_Joined_phi nf) (fun _ F => iter nf F) ref_Joined_keep 18 0 (codeOf Try.f32) (fin tab [((Ty.int IntKind.u32).sl, Md.own false (Md.bor false false))] (resL ([]) Try.f32)) (fun _ _ => none) (fin tab [((Ty.int IntKind.u32).sl, Md.own false (Md.bor false false))] (resL ([]) Try.f32)))
def ref_Joined_m18 (vars : Int) (to'10 : List ((Int × Int × Unit) × Bool)) (out : List Int) (i3 : Int) : St := ⟨fresh, [(0, AV.v (Ty.int IntKind.i64) (Md.bor false true) vars), (6, AV.ow 500006 (((Ty.int IntKind.i64).pair ((Ty.int IntKind.i64).pair Ty.unit)).mp Ty.bool) (Md.own true (Md.bor false false)) to'10), (21, AV.ow 500021 (Ty.int IntKind.u32).sl (Md.own false (Md.bor false false)) out), (22, AV.v (Ty.int IntKind.i64) (Md.bor false true) i3), (24, AV.dead), (215, AV.dead)]⟩
theorem ref_Joined_h18 (nf : Nat)  (vars : Int) (fu : Nat) (to'10 : List ((Int × Int × Unit) × Bool)) (out : List Int) (i3 : Int) : iter (fu + 1) (LC.F tab (ref_Joined_phi nf) (fun _ F => iter nf F) ref_Joined_keep 18 (ref_Joined_L18 nf )) (ref_Joined_m18 vars to'10 out i3) = ref_Joined_b18 nf  vars  (fun to'10 out i3 => iter fu (LC.F tab (ref_Joined_phi nf) (fun _ F => iter nf F) ref_Joined_keep 18 (ref_Joined_L18 nf )) (ref_Joined_m18 vars to'10 out i3)) to'10 out i3 := by kernel_rfl
theorem ref_Joined_e18 (nf : Nat)  (vars : Int) : ∀ (fu : Nat) (to'10 : List ((Int × Int × Unit) × Bool)) (out : List Int) (i3 : Int), iter fu (LC.F tab (ref_Joined_phi nf) (fun _ F => iter nf F) ref_Joined_keep 18 (ref_Joined_L18 nf )) (ref_Joined_m18 vars to'10 out i3) = ref_Joined_l18 nf vars  fu to'10 out i3 := by
  intro fu
  induction fu with
  | zero => intros; rfl
  | succ fu ih =>
    intro to'10 out i3
    rw [ref_Joined_h18 nf  vars fu to'10 out i3]
    simp only [ih]
    rfl
theorem ref_Joined_h16 (nf : Nat) (G2 : St → Option (List Int × Unit)) (G12 : St → Option (List Int × Unit)) (G14 : St → Option (List Int × Unit)) (vars : Int) (l' : List (Int × Int × Int × Unit)) (one2 : List ((Int × Int × Unit) × Bool)) (to'2 : List ((Int × Int × Unit) × Bool)) (i2 : Int) (j : Int) (fu : Nat) (one9 : List ((Int × Int × Unit) × Bool)) (to'9 : List ((Int × Int × Unit) × Bool)) (k' : Int) : iter (fu + 1) (LC.F tab (ref_Joined_phi nf) (fun _ F => iter nf F) ref_Joined_keep 16 (ref_Joined_L16 nf G2 G12 G14)) (ref_Joined_m16 vars l' one2 to'2 i2 j one9 to'9 k') = ref_Joined_b16 nf  vars l' one2 to'2 i2 j (fun one8 to'8 j => G14 (ref_Joined_m14 vars l' one2 to'2 i2 one8 to'8 j)) (fun one7 to'7 i2 => G12 (ref_Joined_m12 vars l' one2 to'2 one7 to'7 i2)) (fun one2 to'2 => G2 (ref_Joined_m2 vars l' one2 to'2)) (fun one9 to'9 k' => iter fu (LC.F tab (ref_Joined_phi nf) (fun _ F => iter nf F) ref_Joined_keep 16 (ref_Joined_L16 nf G2 G12 G14)) (ref_Joined_m16 vars l' one2 to'2 i2 j one9 to'9 k')) one9 to'9 k' := by kernel_rfl
theorem ref_Joined_e16 (nf : Nat) (G2 : St → Option (List Int × Unit)) (G12 : St → Option (List Int × Unit)) (G14 : St → Option (List Int × Unit)) (vars : Int) (l' : List (Int × Int × Int × Unit)) (one2 : List ((Int × Int × Unit) × Bool)) (to'2 : List ((Int × Int × Unit) × Bool)) (i2 : Int) (j : Int) : ∀ (fu : Nat) (one9 : List ((Int × Int × Unit) × Bool)) (to'9 : List ((Int × Int × Unit) × Bool)) (k' : Int), iter fu (LC.F tab (ref_Joined_phi nf) (fun _ F => iter nf F) ref_Joined_keep 16 (ref_Joined_L16 nf G2 G12 G14)) (ref_Joined_m16 vars l' one2 to'2 i2 j one9 to'9 k') = ref_Joined_l16 nf vars l' one2 to'2 i2 j (fun one8 to'8 j => G14 (ref_Joined_m14 vars l' one2 to'2 i2 one8 to'8 j)) (fun one7 to'7 i2 => G12 (ref_Joined_m12 vars l' one2 to'2 one7 to'7 i2)) (fun one2 to'2 => G2 (ref_Joined_m2 vars l' one2 to'2)) fu one9 to'9 k' := by
  intro fu
  induction fu with
  | zero => intros; rfl
  | succ fu ih =>
    intro one9 to'9 k'
    rw [ref_Joined_h16 nf G2 G12 G14 vars l' one2 to'2 i2 j fu one9 to'9 k']
    simp only [ih]
    rfl
theorem ref_Joined_h14 (nf : Nat) (G2 : St → Option (List Int × Unit)) (G12 : St → Option (List Int × Unit)) (vars : Int) (l' : List (Int × Int × Int × Unit)) (one2 : List ((Int × Int × Unit) × Bool)) (to'2 : List ((Int × Int × Unit) × Bool)) (i2 : Int) (fu : Nat) (one8 : List ((Int × Int × Unit) × Bool)) (to'8 : List ((Int × Int × Unit) × Bool)) (j : Int) : iter (fu + 1) (LC.F tab (ref_Joined_phi nf) (fun _ F => iter nf F) ref_Joined_keep 14 (ref_Joined_L14 nf G2 G12)) (ref_Joined_m14 vars l' one2 to'2 i2 one8 to'8 j) = ref_Joined_b14 nf (fun _ _ _ _ _ p5 v0 v1 v2 => iter nf (LC.F tab (ref_Joined_phi nf) (fun _ F => iter nf F) ref_Joined_keep 16 (ref_Joined_L16 nf G2 G12 (iter fu (LC.F tab (ref_Joined_phi nf) (fun _ F => iter nf F) ref_Joined_keep 14 (ref_Joined_L14 nf G2 G12))))) (ref_Joined_m16 vars l' one2 to'2 i2 p5 v0 v1 v2)) vars l' one2 to'2 i2 (fun one7 to'7 i2 => G12 (ref_Joined_m12 vars l' one2 to'2 one7 to'7 i2)) (fun one2 to'2 => G2 (ref_Joined_m2 vars l' one2 to'2)) (fun one8 to'8 j => iter fu (LC.F tab (ref_Joined_phi nf) (fun _ F => iter nf F) ref_Joined_keep 14 (ref_Joined_L14 nf G2 G12)) (ref_Joined_m14 vars l' one2 to'2 i2 one8 to'8 j)) one8 to'8 j := by kernel_rfl
theorem ref_Joined_e14 (nf : Nat) (G2 : St → Option (List Int × Unit)) (G12 : St → Option (List Int × Unit)) (vars : Int) (l' : List (Int × Int × Int × Unit)) (one2 : List ((Int × Int × Unit) × Bool)) (to'2 : List ((Int × Int × Unit) × Bool)) (i2 : Int) : ∀ (fu : Nat) (one8 : List ((Int × Int × Unit) × Bool)) (to'8 : List ((Int × Int × Unit) × Bool)) (j : Int), iter fu (LC.F tab (ref_Joined_phi nf) (fun _ F => iter nf F) ref_Joined_keep 14 (ref_Joined_L14 nf G2 G12)) (ref_Joined_m14 vars l' one2 to'2 i2 one8 to'8 j) = ref_Joined_l14 nf vars l' one2 to'2 i2 (fun one7 to'7 i2 => G12 (ref_Joined_m12 vars l' one2 to'2 one7 to'7 i2)) (fun one2 to'2 => G2 (ref_Joined_m2 vars l' one2 to'2)) fu one8 to'8 j := by
  intro fu
  induction fu with
  | zero => intros; rfl
  | succ fu ih =>
    intro one8 to'8 j
    rw [ref_Joined_h14 nf G2 G12 vars l' one2 to'2 i2 fu one8 to'8 j]
    simp only [ih, ref_Joined_e16]
    rfl
theorem ref_Joined_h12 (nf : Nat) (G2 : St → Option (List Int × Unit)) (vars : Int) (l' : List (Int × Int × Int × Unit)) (one2 : List ((Int × Int × Unit) × Bool)) (to'2 : List ((Int × Int × Unit) × Bool)) (fu : Nat) (one7 : List ((Int × Int × Unit) × Bool)) (to'7 : List ((Int × Int × Unit) × Bool)) (i2 : Int) : iter (fu + 1) (LC.F tab (ref_Joined_phi nf) (fun _ F => iter nf F) ref_Joined_keep 12 (ref_Joined_L12 nf G2)) (ref_Joined_m12 vars l' one2 to'2 one7 to'7 i2) = ref_Joined_b12 nf (fun _ _ _ _ p4 v0 v1 v2 => iter nf (LC.F tab (ref_Joined_phi nf) (fun _ F => iter nf F) ref_Joined_keep 14 (ref_Joined_L14 nf G2 (iter fu (LC.F tab (ref_Joined_phi nf) (fun _ F => iter nf F) ref_Joined_keep 12 (ref_Joined_L12 nf G2))))) (ref_Joined_m14 vars l' one2 to'2 p4 v0 v1 v2)) (fun _ v0 v1 v2 => iter nf (LC.F tab (ref_Joined_phi nf) (fun _ F => iter nf F) ref_Joined_keep 18 (ref_Joined_L18 nf )) (ref_Joined_m18 vars v0 v1 v2)) vars l' one2 to'2 (fun one2 to'2 => G2 (ref_Joined_m2 vars l' one2 to'2)) (fun one7 to'7 i2 => iter fu (LC.F tab (ref_Joined_phi nf) (fun _ F => iter nf F) ref_Joined_keep 12 (ref_Joined_L12 nf G2)) (ref_Joined_m12 vars l' one2 to'2 one7 to'7 i2)) one7 to'7 i2 := by kernel_rfl
theorem ref_Joined_e12 (nf : Nat) (G2 : St → Option (List Int × Unit)) (vars : Int) (l' : List (Int × Int × Int × Unit)) (one2 : List ((Int × Int × Unit) × Bool)) (to'2 : List ((Int × Int × Unit) × Bool)) : ∀ (fu : Nat) (one7 : List ((Int × Int × Unit) × Bool)) (to'7 : List ((Int × Int × Unit) × Bool)) (i2 : Int), iter fu (LC.F tab (ref_Joined_phi nf) (fun _ F => iter nf F) ref_Joined_keep 12 (ref_Joined_L12 nf G2)) (ref_Joined_m12 vars l' one2 to'2 one7 to'7 i2) = ref_Joined_l12 nf vars l' one2 to'2 (fun one2 to'2 => G2 (ref_Joined_m2 vars l' one2 to'2)) fu one7 to'7 i2 := by
  intro fu
  induction fu with
  | zero => intros; rfl
  | succ fu ih =>
    intro one7 to'7 i2
    rw [ref_Joined_h12 nf G2 vars l' one2 to'2 fu one7 to'7 i2]
    simp only [ih, ref_Joined_e14, ref_Joined_e18]
    rfl
theorem ref_Joined_h10 (nf : Nat) (G2 : St → Option (List Int × Unit)) (G4 : St → Option (List Int × Unit)) (G6 : St → Option (List Int × Unit)) (G8 : St → Option (List Int × Unit)) (vars : Int) (l' : List (Int × Int × Int × Unit)) (one2 : List ((Int × Int × Unit) × Bool)) (to'2 : List ((Int × Int × Unit) × Bool)) (x : Int) (a : List Int) (t86 : Int) (t41 : Int) (t85 : Int) (b : List Int) (fu : Nat) (one6 : List ((Int × Int × Unit) × Bool)) (to'6 : List ((Int × Int × Unit) × Bool)) (p3 : Int × Int × Int × Unit) (a2 : List Int) (b2 : List Int) (t92 : Int) : iter (fu + 1) (LC.F tab (ref_Joined_phi nf) (fun _ F => iter nf F) ref_Joined_keep 10 (ref_Joined_L10 nf G2 G4 G6 G8)) (ref_Joined_m10 vars l' one2 to'2 x a t86 t41 t85 b one6 to'6 p3 a2 b2 t92) = ref_Joined_b10 nf  vars l' one2 to'2 x a t86 t41 t85 b (fun one5 to'5 p2 a b t85 t86 => G8 (ref_Joined_m8 vars l' one2 to'2 x t41 one5 to'5 p2 a b t85 t86)) (fun one4 to'4 p x => G6 (ref_Joined_m6 vars l' one2 to'2 t41 one4 to'4 p x)) (fun one3 to'3 t41 => G4 (ref_Joined_m4 vars l' one2 to'2 one3 to'3 t41)) (fun one2 to'2 => G2 (ref_Joined_m2 vars l' one2 to'2)) (fun one6 to'6 p3 a2 b2 t92 => iter fu (LC.F tab (ref_Joined_phi nf) (fun _ F => iter nf F) ref_Joined_keep 10 (ref_Joined_L10 nf G2 G4 G6 G8)) (ref_Joined_m10 vars l' one2 to'2 x a t86 t41 t85 b one6 to'6 p3 a2 b2 t92)) one6 to'6 p3 a2 b2 t92 := by kernel_rfl
theorem ref_Joined_e10 (nf : Nat) (G2 : St → Option (List Int × Unit)) (G4 : St → Option (List Int × Unit)) (G6 : St → Option (List Int × Unit)) (G8 : St → Option (List Int × Unit)) (vars : Int) (l' : List (Int × Int × Int × Unit)) (one2 : List ((Int × Int × Unit) × Bool)) (to'2 : List ((Int × Int × Unit) × Bool)) (x : Int) (a : List Int) (t86 : Int) (t41 : Int) (t85 : Int) (b : List Int) : ∀ (fu : Nat) (one6 : List ((Int × Int × Unit) × Bool)) (to'6 : List ((Int × Int × Unit) × Bool)) (p3 : Int × Int × Int × Unit) (a2 : List Int) (b2 : List Int) (t92 : Int), iter fu (LC.F tab (ref_Joined_phi nf) (fun _ F => iter nf F) ref_Joined_keep 10 (ref_Joined_L10 nf G2 G4 G6 G8)) (ref_Joined_m10 vars l' one2 to'2 x a t86 t41 t85 b one6 to'6 p3 a2 b2 t92) = ref_Joined_l10 nf vars l' one2 to'2 x a t86 t41 t85 b (fun one5 to'5 p2 a b t85 t86 => G8 (ref_Joined_m8 vars l' one2 to'2 x t41 one5 to'5 p2 a b t85 t86)) (fun one4 to'4 p x => G6 (ref_Joined_m6 vars l' one2 to'2 t41 one4 to'4 p x)) (fun one3 to'3 t41 => G4 (ref_Joined_m4 vars l' one2 to'2 one3 to'3 t41)) (fun one2 to'2 => G2 (ref_Joined_m2 vars l' one2 to'2)) fu one6 to'6 p3 a2 b2 t92 := by
  intro fu
  induction fu with
  | zero => intros; rfl
  | succ fu ih =>
    intro one6 to'6 p3 a2 b2 t92
    rw [ref_Joined_h10 nf G2 G4 G6 G8 vars l' one2 to'2 x a t86 t41 t85 b fu one6 to'6 p3 a2 b2 t92]
    simp only [ih]
    rfl
theorem ref_Joined_h8 (nf : Nat) (G2 : St → Option (List Int × Unit)) (G4 : St → Option (List Int × Unit)) (G6 : St → Option (List Int × Unit)) (vars : Int) (l' : List (Int × Int × Int × Unit)) (one2 : List ((Int × Int × Unit) × Bool)) (to'2 : List ((Int × Int × Unit) × Bool)) (x : Int) (t41 : Int) (fu : Nat) (one5 : List ((Int × Int × Unit) × Bool)) (to'5 : List ((Int × Int × Unit) × Bool)) (p2 : Int × Int × Int × Unit) (a : List Int) (b : List Int) (t85 : Int) (t86 : Int) : iter (fu + 1) (LC.F tab (ref_Joined_phi nf) (fun _ F => iter nf F) ref_Joined_keep 8 (ref_Joined_L8 nf G2 G4 G6)) (ref_Joined_m8 vars l' one2 to'2 x t41 one5 to'5 p2 a b t85 t86) = ref_Joined_b8 nf (fun _ _ _ _ _ p5 p6 _ p8 p9 v0 v1 v2 v3 v4 v5 => iter nf (LC.F tab (ref_Joined_phi nf) (fun _ F => iter nf F) ref_Joined_keep 10 (ref_Joined_L10 nf G2 G4 G6 (iter fu (LC.F tab (ref_Joined_phi nf) (fun _ F => iter nf F) ref_Joined_keep 8 (ref_Joined_L8 nf G2 G4 G6))))) (ref_Joined_m10 vars l' one2 to'2 x p5 p6 t41 p8 p9 v0 v1 v2 v3 v4 v5)) vars l' one2 to'2 x t41 (fun one4 to'4 p x => G6 (ref_Joined_m6 vars l' one2 to'2 t41 one4 to'4 p x)) (fun one3 to'3 t41 => G4 (ref_Joined_m4 vars l' one2 to'2 one3 to'3 t41)) (fun one2 to'2 => G2 (ref_Joined_m2 vars l' one2 to'2)) (fun one5 to'5 p2 a b t85 t86 => iter fu (LC.F tab (ref_Joined_phi nf) (fun _ F => iter nf F) ref_Joined_keep 8 (ref_Joined_L8 nf G2 G4 G6)) (ref_Joined_m8 vars l' one2 to'2 x t41 one5 to'5 p2 a b t85 t86)) one5 to'5 p2 a b t85 t86 := by kernel_rfl
theorem ref_Joined_e8 (nf : Nat) (G2 : St → Option (List Int × Unit)) (G4 : St → Option (List Int × Unit)) (G6 : St → Option (List Int × Unit)) (vars : Int) (l' : List (Int × Int × Int × Unit)) (one2 : List ((Int × Int × Unit) × Bool)) (to'2 : List ((Int × Int × Unit) × Bool)) (x : Int) (t41 : Int) : ∀ (fu : Nat) (one5 : List ((Int × Int × Unit) × Bool)) (to'5 : List ((Int × Int × Unit) × Bool)) (p2 : Int × Int × Int × Unit) (a : List Int) (b : List Int) (t85 : Int) (t86 : Int), iter fu (LC.F tab (ref_Joined_phi nf) (fun _ F => iter nf F) ref_Joined_keep 8 (ref_Joined_L8 nf G2 G4 G6)) (ref_Joined_m8 vars l' one2 to'2 x t41 one5 to'5 p2 a b t85 t86) = ref_Joined_l8 nf vars l' one2 to'2 x t41 (fun one4 to'4 p x => G6 (ref_Joined_m6 vars l' one2 to'2 t41 one4 to'4 p x)) (fun one3 to'3 t41 => G4 (ref_Joined_m4 vars l' one2 to'2 one3 to'3 t41)) (fun one2 to'2 => G2 (ref_Joined_m2 vars l' one2 to'2)) fu one5 to'5 p2 a b t85 t86 := by
  intro fu
  induction fu with
  | zero => intros; rfl
  | succ fu ih =>
    intro one5 to'5 p2 a b t85 t86
    rw [ref_Joined_h8 nf G2 G4 G6 vars l' one2 to'2 x t41 fu one5 to'5 p2 a b t85 t86]
    simp only [ih, ref_Joined_e10]
    rfl
theorem ref_Joined_h6 (nf : Nat) (G2 : St → Option (List Int × Unit)) (G4 : St → Option (List Int × Unit)) (vars : Int) (l' : List (Int × Int × Int × Unit)) (one2 : List ((Int × Int × Unit) × Bool)) (to'2 : List ((Int × Int × Unit) × Bool)) (t41 : Int) (fu : Nat) (one4 : List ((Int × Int × Unit) × Bool)) (to'4 : List ((Int × Int × Unit) × Bool)) (p : Int × Int × Int × Unit) (x : Int) : iter (fu + 1) (LC.F tab (ref_Joined_phi nf) (fun _ F => iter nf F) ref_Joined_keep 6 (ref_Joined_L6 nf G2 G4)) (ref_Joined_m6 vars l' one2 to'2 t41 one4 to'4 p x) = ref_Joined_b6 nf (fun _ _ _ _ p4 _ v0 v1 v2 v3 v4 v5 v6 => iter nf (LC.F tab (ref_Joined_phi nf) (fun _ F => iter nf F) ref_Joined_keep 8 (ref_Joined_L8 nf G2 G4 (iter fu (LC.F tab (ref_Joined_phi nf) (fun _ F => iter nf F) ref_Joined_keep 6 (ref_Joined_L6 nf G2 G4))))) (ref_Joined_m8 vars l' one2 to'2 p4 t41 v0 v1 v2 v3 v4 v5 v6)) vars l' one2 to'2 t41 (fun one3 to'3 t41 => G4 (ref_Joined_m4 vars l' one2 to'2 one3 to'3 t41)) (fun one2 to'2 => G2 (ref_Joined_m2 vars l' one2 to'2)) (fun one4 to'4 p x => iter fu (LC.F tab (ref_Joined_phi nf) (fun _ F => iter nf F) ref_Joined_keep 6 (ref_Joined_L6 nf G2 G4)) (ref_Joined_m6 vars l' one2 to'2 t41 one4 to'4 p x)) one4 to'4 p x := by kernel_rfl
theorem ref_Joined_e6 (nf : Nat) (G2 : St → Option (List Int × Unit)) (G4 : St → Option (List Int × Unit)) (vars : Int) (l' : List (Int × Int × Int × Unit)) (one2 : List ((Int × Int × Unit) × Bool)) (to'2 : List ((Int × Int × Unit) × Bool)) (t41 : Int) : ∀ (fu : Nat) (one4 : List ((Int × Int × Unit) × Bool)) (to'4 : List ((Int × Int × Unit) × Bool)) (p : Int × Int × Int × Unit) (x : Int), iter fu (LC.F tab (ref_Joined_phi nf) (fun _ F => iter nf F) ref_Joined_keep 6 (ref_Joined_L6 nf G2 G4)) (ref_Joined_m6 vars l' one2 to'2 t41 one4 to'4 p x) = ref_Joined_l6 nf vars l' one2 to'2 t41 (fun one3 to'3 t41 => G4 (ref_Joined_m4 vars l' one2 to'2 one3 to'3 t41)) (fun one2 to'2 => G2 (ref_Joined_m2 vars l' one2 to'2)) fu one4 to'4 p x := by
  intro fu
  induction fu with
  | zero => intros; rfl
  | succ fu ih =>
    intro one4 to'4 p x
    rw [ref_Joined_h6 nf G2 G4 vars l' one2 to'2 t41 fu one4 to'4 p x]
    simp only [ih, ref_Joined_e8]
    rfl
theorem ref_Joined_h4 (nf : Nat) (G2 : St → Option (List Int × Unit)) (vars : Int) (l' : List (Int × Int × Int × Unit)) (one2 : List ((Int × Int × Unit) × Bool)) (to'2 : List ((Int × Int × Unit) × Bool)) (fu : Nat) (one3 : List ((Int × Int × Unit) × Bool)) (to'3 : List ((Int × Int × Unit) × Bool)) (t41 : Int) : iter (fu + 1) (LC.F tab (ref_Joined_phi nf) (fun _ F => iter nf F) ref_Joined_keep 4 (ref_Joined_L4 nf G2)) (ref_Joined_m4 vars l' one2 to'2 one3 to'3 t41) = ref_Joined_b4 nf (fun _ _ _ _ p4 v0 v1 v2 v3 => iter nf (LC.F tab (ref_Joined_phi nf) (fun _ F => iter nf F) ref_Joined_keep 6 (ref_Joined_L6 nf G2 (iter fu (LC.F tab (ref_Joined_phi nf) (fun _ F => iter nf F) ref_Joined_keep 4 (ref_Joined_L4 nf G2))))) (ref_Joined_m6 vars l' one2 to'2 p4 v0 v1 v2 v3)) (fun _ _ _ _ v0 v1 v2 => iter nf (LC.F tab (ref_Joined_phi nf) (fun _ F => iter nf F) ref_Joined_keep 12 (ref_Joined_L12 nf G2)) (ref_Joined_m12 vars l' one2 to'2 v0 v1 v2)) vars l' one2 to'2 (fun one2 to'2 => G2 (ref_Joined_m2 vars l' one2 to'2)) (fun one3 to'3 t41 => iter fu (LC.F tab (ref_Joined_phi nf) (fun _ F => iter nf F) ref_Joined_keep 4 (ref_Joined_L4 nf G2)) (ref_Joined_m4 vars l' one2 to'2 one3 to'3 t41)) one3 to'3 t41 := by kernel_rfl
theorem ref_Joined_e4 (nf : Nat) (G2 : St → Option (List Int × Unit)) (vars : Int) (l' : List (Int × Int × Int × Unit)) (one2 : List ((Int × Int × Unit) × Bool)) (to'2 : List ((Int × Int × Unit) × Bool)) : ∀ (fu : Nat) (one3 : List ((Int × Int × Unit) × Bool)) (to'3 : List ((Int × Int × Unit) × Bool)) (t41 : Int), iter fu (LC.F tab (ref_Joined_phi nf) (fun _ F => iter nf F) ref_Joined_keep 4 (ref_Joined_L4 nf G2)) (ref_Joined_m4 vars l' one2 to'2 one3 to'3 t41) = ref_Joined_l4 nf vars l' one2 to'2 (fun one2 to'2 => G2 (ref_Joined_m2 vars l' one2 to'2)) fu one3 to'3 t41 := by
  intro fu
  induction fu with
  | zero => intros; rfl
  | succ fu ih =>
    intro one3 to'3 t41
    rw [ref_Joined_h4 nf G2 vars l' one2 to'2 fu one3 to'3 t41]
    simp only [ih, ref_Joined_e6, ref_Joined_e12]
    rfl
theorem ref_Joined_h2 (nf : Nat)  (vars : Int) (l' : List (Int × Int × Int × Unit)) (fu : Nat) (one2 : List ((Int × Int × Unit) × Bool)) (to'2 : List ((Int × Int × Unit) × Bool)) : iter (fu + 1) (LC.F tab (ref_Joined_phi nf) (fun _ F => iter nf F) ref_Joined_keep 2 (ref_Joined_L2 nf )) (ref_Joined_m2 vars l' one2 to'2) = ref_Joined_b2 nf (fun _ _ p2 p3 v0 v1 v2 => iter nf (LC.F tab (ref_Joined_phi nf) (fun _ F => iter nf F) ref_Joined_keep 4 (ref_Joined_L4 nf (iter fu (LC.F tab (ref_Joined_phi nf) (fun _ F => iter nf F) ref_Joined_keep 2 (ref_Joined_L2 nf ))))) (ref_Joined_m4 vars l' p2 p3 v0 v1 v2)) vars l'  (fun one2 to'2 => iter fu (LC.F tab (ref_Joined_phi nf) (fun _ F => iter nf F) ref_Joined_keep 2 (ref_Joined_L2 nf )) (ref_Joined_m2 vars l' one2 to'2)) one2 to'2 := by kernel_rfl
theorem ref_Joined_e2 (nf : Nat)  (vars : Int) (l' : List (Int × Int × Int × Unit)) : ∀ (fu : Nat) (one2 : List ((Int × Int × Unit) × Bool)) (to'2 : List ((Int × Int × Unit) × Bool)), iter fu (LC.F tab (ref_Joined_phi nf) (fun _ F => iter nf F) ref_Joined_keep 2 (ref_Joined_L2 nf )) (ref_Joined_m2 vars l' one2 to'2) = ref_Joined_l2 nf vars l'  fu one2 to'2 := by
  intro fu
  induction fu with
  | zero => intros; rfl
  | succ fu ih =>
    intro one2 to'2
    rw [ref_Joined_h2 nf  vars l' fu one2 to'2]
    simp only [ih, ref_Joined_e4]
    rfl
theorem ref_Joined_h0 (nf : Nat)  (vars : Int) (l' : List (Int × Int × Int × Unit)) (fu : Nat) (one : List ((Int × Int × Unit) × Bool)) (to' : List ((Int × Int × Unit) × Bool)) (i : Int) : iter (fu + 1) (LC.F tab (ref_Joined_phi nf) (fun _ F => iter nf F) ref_Joined_keep 0 (ref_Joined_L0 nf )) (ref_Joined_m0 vars l' one to' i) = ref_Joined_b0 nf (fun _ _ v0 v1 => iter nf (LC.F tab (ref_Joined_phi nf) (fun _ F => iter nf F) ref_Joined_keep 2 (ref_Joined_L2 nf )) (ref_Joined_m2 vars l' v0 v1)) vars l'  (fun one to' i => iter fu (LC.F tab (ref_Joined_phi nf) (fun _ F => iter nf F) ref_Joined_keep 0 (ref_Joined_L0 nf )) (ref_Joined_m0 vars l' one to' i)) one to' i := by kernel_rfl
theorem ref_Joined_e0 (nf : Nat)  (vars : Int) (l' : List (Int × Int × Int × Unit)) : ∀ (fu : Nat) (one : List ((Int × Int × Unit) × Bool)) (to' : List ((Int × Int × Unit) × Bool)) (i : Int), iter fu (LC.F tab (ref_Joined_phi nf) (fun _ F => iter nf F) ref_Joined_keep 0 (ref_Joined_L0 nf )) (ref_Joined_m0 vars l' one to' i) = ref_Joined_l0 nf vars l'  fu one to' i := by
  intro fu
  induction fu with
  | zero => intros; rfl
  | succ fu ih =>
    intro one to' i
    rw [ref_Joined_h0 nf  vars l' fu one to' i]
    simp only [ih, ref_Joined_e2]
    rfl
theorem ref_Joined_eq (nf : Nat) (vars : Int) (l' : List (Int × Int × Int × Unit)) : runF tab (ref_Joined_phi nf) ref_Joined_keep nf [PT.val (Ty.int IntKind.i64) (Md.bor true false), PT.val ((Ty.int IntKind.i64).pair ((Ty.int IntKind.i64).pair ((Ty.int IntKind.i64).pair Ty.unit))).sl (Md.bor true false)] [((Ty.int IntKind.u32).sl, Md.own false (Md.bor false false))] (resL ([]) Try.f32) (codeOf Try.f32) ⟨vars, l', ()⟩ = ref_Joined_f nf vars l' := by
  have h : runF tab (ref_Joined_phi nf) ref_Joined_keep nf [PT.val (Ty.int IntKind.i64) (Md.bor true false), PT.val ((Ty.int IntKind.i64).pair ((Ty.int IntKind.i64).pair ((Ty.int IntKind.i64).pair Ty.unit))).sl (Md.bor true false)] [((Ty.int IntKind.u32).sl, Md.own false (Md.bor false false))] (resL ([]) Try.f32) (codeOf Try.f32) ⟨vars, l', ()⟩ = ref_Joined_p nf (fun p0 p1 v0 v1 v2 => iter nf (LC.F tab (ref_Joined_phi nf) (fun _ F => iter nf F) ref_Joined_keep 0 (ref_Joined_L0 nf)) (ref_Joined_m0 p0 p1 v0 v1 v2)) vars l' := by kernel_rfl
  rw [h]
  simp only [ref_Joined_e0]
  rfl
def ref_Joined_F (nf : Nat) (x : denPs [.val (.int .i64) (.bor true false), .val (.sl (.pair (.int .i64) (.pair (.int .i64) (.pair (.int .i64) (.unit))))) (.bor true false)]) : Option (denL [(.sl (.int .u32), .own false (.bor false false))]) := ref_Joined_f nf x.1 x.2.1
def ref_Joined_C (nf : Nat) : Contract := ⟨[.val (.int .i64) (.bor true false), .val (.sl (.pair (.int .i64) (.pair (.int .i64) (.pair (.int .i64) (.unit))))) (.bor true false)], [(.sl (.int .u32), .own false (.bor false false))], ref_Joined_F nf, []⟩
theorem ref_Joined_ok : FnOK Try.prog 32 := ⟨Try.f32, codeOf Try.f32, Try.func32, by kernel_rfl, by kernel_rfl⟩
theorem ref_Joined_holds (nf : Nat) : Contract.Holds Try.prog 32 (ref_Joined_C nf) :=
  fn_holds (Φ := ref_Joined_phi nf) (keep := ref_Joined_keep) (n := nf) ⟨tabs.1, tabs.2, (ctx_cons ref_Set_ok (ref_Set_holds nf) (ctx_cons ref_pointees_ok (ref_pointees_holds nf) ctx_nil)), mixed, bk_ok bkls rfl⟩ (fn := Try.f32) ⟨Try.func32, by kernel_rfl, by kernel_rfl, by kernel_rfl⟩ (fun x => ref_Joined_eq nf x.1 x.2.1)

/-! codemason codemasonlaw.PointJoins -/
def law_PointJoins_phi (nf : Nat) : Nat → Option Contract := lookC [(28, ref_PointCheck_C nf), (29, ref_Words_C nf), (31, point_Joined_C nf), (32, ref_Joined_C nf)]
def law_PointJoins_keep : Nat → List Nat := lookK []
def law_PointJoins_p (nf : Nat)  (vars : Int) (l' : List (Int × Int × Int × Unit)) : Option (Bool × Unit) :=
  Option.bind (point_Joined_f nf vars l') fun r =>
  Option.bind (ref_PointCheck_f nf vars l' ([])) fun r2 =>
  bif r2.fst != 0 then
    bif r.snd.fst == r2.fst then
      some (((↑(List.length r.fst) : Int) == 0, ()))
    else
      some ((false, ()))
  else
    bif r.snd.fst == 0 then
      Option.bind (ref_Joined_f nf vars l') fun r3 =>
      Option.bind (ref_Words_f nf r.fst r3.fst) fun r4 =>
      some ((r4.fst, ()))
    else
      some ((false, ()))
def law_PointJoins_f (nf : Nat) (vars : Int) (l' : List (Int × Int × Int × Unit)) : Option (Bool × Unit) := law_PointJoins_p nf  vars l'
theorem law_PointJoins_eq (nf : Nat) (vars : Int) (l' : List (Int × Int × Int × Unit)) : runF tab (law_PointJoins_phi nf) law_PointJoins_keep nf [PT.val (Ty.int IntKind.i64) (Md.bor false false), PT.val ((Ty.int IntKind.i64).pair ((Ty.int IntKind.i64).pair ((Ty.int IntKind.i64).pair Ty.unit))).sl (Md.bor false false)] [(Ty.bool, Md.bor false true)] (resL ([]) Try.f9) (codeOf Try.f9) ⟨vars, l', ()⟩ = law_PointJoins_f nf vars l' := by
  have h : runF tab (law_PointJoins_phi nf) law_PointJoins_keep nf [PT.val (Ty.int IntKind.i64) (Md.bor false false), PT.val ((Ty.int IntKind.i64).pair ((Ty.int IntKind.i64).pair ((Ty.int IntKind.i64).pair Ty.unit))).sl (Md.bor false false)] [(Ty.bool, Md.bor false true)] (resL ([]) Try.f9) (codeOf Try.f9) ⟨vars, l', ()⟩ = law_PointJoins_p nf  vars l' := by kernel_rfl
  exact h
def law_PointJoins_F (nf : Nat) (x : denPs [.val (.int .i64) (.bor false false), .val (.sl (.pair (.int .i64) (.pair (.int .i64) (.pair (.int .i64) (.unit))))) (.bor false false)]) : Option (denL [(.bool, .bor false true)]) := law_PointJoins_f nf x.1 x.2.1
def law_PointJoins_C (nf : Nat) : Contract := ⟨[.val (.int .i64) (.bor false false), .val (.sl (.pair (.int .i64) (.pair (.int .i64) (.pair (.int .i64) (.unit))))) (.bor false false)], [(.bool, .bor false true)], law_PointJoins_F nf, []⟩
theorem law_PointJoins_ok : FnOK Try.prog 9 := ⟨Try.f9, codeOf Try.f9, Try.func9, by kernel_rfl, by kernel_rfl⟩
theorem law_PointJoins_holds (nf : Nat) : Contract.Holds Try.prog 9 (law_PointJoins_C nf) :=
  fn_holds (Φ := law_PointJoins_phi nf) (keep := law_PointJoins_keep) (n := nf) ⟨tabs.1, tabs.2, (ctx_cons ref_PointCheck_ok (ref_PointCheck_holds nf) (ctx_cons ref_Words_ok (ref_Words_holds nf) (ctx_cons point_Joined_ok (point_Joined_holds nf) (ctx_cons ref_Joined_ok (ref_Joined_holds nf) ctx_nil)))), mixed, bk_ok bkls rfl⟩ (fn := Try.f9) ⟨Try.func9, by kernel_rfl, by kernel_rfl, by kernel_rfl⟩ (fun x => law_PointJoins_eq nf x.1 x.2.1)
end
end Go.Proofs.Ytmndifhjmbiodaa.S
