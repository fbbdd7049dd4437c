/- The functions of the code, as plain functions, and the theorems that say so: made by a program of this proof's own. -/
import Derived.Test.YtpnganfbonlphaaFn1
import Derived.Test.YtpnganfbonlphaaChecked
namespace Go.Proofs.Ytpnganfbonlphaa.S
open Go Go.Ab
noncomputable section

/-! codemason term.used -/
def term_used_phi (nf : Nat) : Nat → Option Contract := lookC []
def term_used_keep : Nat → List Nat := lookK [(0, [3, 15, 16])]
def term_used_b0 (nf : Nat) (l' : List (Int × Int × Int × Int × Unit)) (g0 : List Bool → Int → Option (List Bool × Unit)) (out : List Bool) (t16 : Int) : Option (List Bool × Unit) :=
  bif decide (t16 ≤ 0) then
    some ((out, ()))
  else
    bif inb (t16 - 1) l'.length then
      bif inb (t16 - 1) out.length then
        bif out.getD (Int.toNat (t16 - 1)) false then
          bif decide ((l'.getD (Int.toNat (t16 - 1)) (0, 0, 0, 0, ())).fst > 2) then
            bif inb (l'.getD (Int.toNat (t16 - 1)) (0, 0, 0, 0, ())).snd.fst out.length then
              bif inb (l'.getD (Int.toNat (t16 - 1)) (0, 0, 0, 0, ())).snd.snd.fst (out.set (Int.toNat (l'.getD (Int.toNat (t16 - 1)) (0, 0, 0, 0, ())).snd.fst) true).length then
                g0 ((out.set (Int.toNat (l'.getD (Int.toNat (t16 - 1)) (0, 0, 0, 0, ())).snd.fst) true).set (Int.toNat (l'.getD (Int.toNat (t16 - 1)) (0, 0, 0, 0, ())).snd.snd.fst) true) (t16 - 1)
              else
                none
            else
              none
          else
            g0 out (t16 - 1)
        else
          g0 out (t16 - 1)
      else
        none
    else
      none
def term_used_p (nf : Nat) (l0 : List (Int × Int × Int × Int × Unit) → List Bool → Int → Option (List Bool × Unit)) (l' : List (Int × Int × Int × Int × Unit)) : Option (List Bool × Unit) :=
  bif decide (0 ≤ (↑l'.length : Int)) && decide ((↑l'.length : Int) ≤ (↑l'.length : Int)) && decide ((↑l'.length : Int) ≤ (↑lim : Int)) then
    bif inb (IntKind.i64.wrap ((↑l'.length : Int) - 1)) (List.replicate (↑l'.length : Int).toNat false).length then
      bif l'.length.ble lim then
        l0 l' ((List.replicate (↑l'.length : Int).toNat false).set (IntKind.i64.wrap ((↑l'.length : Int) - 1)).toNat true) ((↑l'.length : Int))
      else
        none
    else
      none
  else
    none
def term_used_l0 (nf : Nat) (l' : List (Int × Int × Int × Int × Unit)) : Nat → List Bool → Int → Option (List Bool × Unit)
  | 0, _, _ => none
  | fu + 1, out, t16 => term_used_b0 nf  l'  (term_used_l0 nf l'  fu) out t16
def term_used_f (nf : Nat) (l' : List (Int × Int × Int × Int × Unit)) : Option (List Bool × Unit) := term_used_p nf (fun p0 v0 v1 => term_used_l0 nf p0 nf v0 v1) l'
noncomputable def term_used_L0 (nf : Nat) : LC (List Bool × Unit) := theL (findL tab (term_used_phi nf) (fun _ F => iter nf F) term_used_keep 0 0 (codeOf Try.f64) (fin tab [(Ty.bool.sl, Md.own false (Md.bor false false))] (resL ([]) Try.f64)) (fun _ _ => none) (fin tab [(Ty.bool.sl, Md.own false (Md.bor false false))] (resL ([]) Try.f64)))
def term_used_m0 (l' : List (Int × Int × Int × Int × Unit)) (out : List Bool) (t16 : Int) : St := ⟨fresh, [(3, AV.box 3 500003 Ty.bool.sl (Md.own false (Md.bor false false)) out), (15, AV.clo 96 [AV.rop ((Ty.int IntKind.i64).pair ((Ty.int IntKind.i64).pair ((Ty.int IntKind.i64).pair ((Ty.int IntKind.i64).pair Ty.unit)))).sl (Md.bor true false) l']), (16, AV.v (Ty.int IntKind.i64) (Md.bor false true) t16)]⟩
theorem term_used_h0 (nf : Nat)  (l' : List (Int × Int × Int × Int × Unit)) (fu : Nat) (out : List Bool) (t16 : Int) : iter (fu + 1) (LC.F tab (term_used_phi nf) (fun _ F => iter nf F) term_used_keep 0 (term_used_L0 nf )) (term_used_m0 l' out t16) = term_used_b0 nf  l'  (fun out t16 => iter fu (LC.F tab (term_used_phi nf) (fun _ F => iter nf F) term_used_keep 0 (term_used_L0 nf )) (term_used_m0 l' out t16)) out t16 := by kernel_rfl
theorem term_used_e0 (nf : Nat)  (l' : List (Int × Int × Int × Int × Unit)) : ∀ (fu : Nat) (out : List Bool) (t16 : Int), iter fu (LC.F tab (term_used_phi nf) (fun _ F => iter nf F) term_used_keep 0 (term_used_L0 nf )) (term_used_m0 l' out t16) = term_used_l0 nf l'  fu out t16 := by
  intro fu
  induction fu with
  | zero => intros; rfl
  | succ fu ih =>
    intro out t16
    rw [term_used_h0 nf  l' fu out t16]
    simp only [ih]
    rfl
theorem term_used_eq (nf : Nat) (l' : List (Int × Int × Int × Int × Unit)) : runF tab (term_used_phi nf) term_used_keep nf [PT.val ((Ty.int IntKind.i64).pair ((Ty.int IntKind.i64).pair ((Ty.int IntKind.i64).pair ((Ty.int IntKind.i64).pair Ty.unit)))).sl (Md.bor true false)] [(Ty.bool.sl, Md.own false (Md.bor false false))] (resL ([]) Try.f64) (codeOf Try.f64) ⟨l', ()⟩ = term_used_f nf l' := by
  have h : runF tab (term_used_phi nf) term_used_keep nf [PT.val ((Ty.int IntKind.i64).pair ((Ty.int IntKind.i64).pair ((Ty.int IntKind.i64).pair ((Ty.int IntKind.i64).pair Ty.unit)))).sl (Md.bor true false)] [(Ty.bool.sl, Md.own false (Md.bor false false))] (resL ([]) Try.f64) (codeOf Try.f64) ⟨l', ()⟩ = term_used_p nf (fun p0 v0 v1 => iter nf (LC.F tab (term_used_phi nf) (fun _ F => iter nf F) term_used_keep 0 (term_used_L0 nf)) (term_used_m0 p0 v0 v1)) l' := by kernel_rfl
  rw [h]
  simp only [term_used_e0]
  rfl
def term_used_F (nf : Nat) (x : denPs [.val (.sl (.pair (.int .i64) (.pair (.int .i64) (.pair (.int .i64) (.pair (.int .i64) (.unit)))))) (.bor true false)]) : Option (denL [(.sl (.bool), .own false (.bor false false))]) := term_used_f nf x.1
def term_used_C (nf : Nat) : Contract := ⟨[.val (.sl (.pair (.int .i64) (.pair (.int .i64) (.pair (.int .i64) (.pair (.int .i64) (.unit)))))) (.bor true false)], [(.sl (.bool), .own false (.bor false false))], term_used_F nf, []⟩
theorem term_used_ok : FnOK Try.prog 64 := ⟨Try.f64, codeOf Try.f64, Try.func64, by kernel_rfl, by kernel_rfl⟩
theorem term_used_holds (nf : Nat) : Contract.Holds Try.prog 64 (term_used_C nf) :=
  fn_holds (Φ := term_used_phi nf) (keep := term_used_keep) (n := nf) ⟨tabs.1, tabs.2, ctx_nil, mixed, bk_ok bkls rfl⟩ (fn := Try.f64) ⟨Try.func64, by kernel_rfl, by kernel_rfl, by kernel_rfl⟩ (fun x => term_used_eq nf x.1)

/-! codemason term.Uses -/
def term_Uses_phi (nf : Nat) : Nat → Option Contract := lookC [(20, term_Check_C nf), (64, term_used_C nf)]
def term_Uses_keep : Nat → List Nat := lookK [(0, [1, 7, 17, 18, 19])]
def term_Uses_b0 (nf : Nat) (l' : List (Int × Int × Int × Int × Unit)) (r2 : List Bool × Unit) (g0 : Int → List Bool → Int → Option (Int × Int × Unit)) (s : Int) (t17 : List Bool) (t19 : Int) : Option (Int × Int × Unit) :=
  bif decide (t19 < (↑(List.length r2.fst) : Int)) then
    bif inb t19 t17.length then
      bif t17.getD t19.toNat false then
        bif inb t19 l'.length then
          bif (l'.getD t19.toNat (0, 0, 0, 0, ())).fst == 2 then
            bif inb t19 l'.length then
              bif decide (0 ≤ (l'.getD t19.toNat (0, 0, 0, 0, ())).snd.snd.snd.fst) then
                g0 (IntKind.u32.wrap (↑(BitVec.ofInt IntKind.u32.bits s ||| BitVec.ofInt IntKind.u32.bits (shlI IntKind.u32 1 (l'.getD t19.toNat (0, 0, 0, 0, ())).snd.snd.snd.fst)).toNat : Int)) t17 (IntKind.i64.wrap (t19 + 1))
              else
                none
            else
              none
          else
            g0 s t17 (IntKind.i64.wrap (t19 + 1))
        else
          none
      else
        g0 s t17 (IntKind.i64.wrap (t19 + 1))
    else
      none
  else
    some ((s, 0, ()))
def term_Uses_p (nf : Nat) (l0 : List (Int × Int × Int × Int × Unit) → List Bool × Unit → Int → List Bool → Int → Option (Int × Int × Unit)) (vars : Int) (l' : List (Int × Int × Int × Int × Unit)) : Option (Int × Int × Unit) :=
  Option.bind (term_Check_f nf vars l') fun r =>
  bif r.fst != 0 then
    some ((0, r.fst, ()))
  else
    Option.bind (term_used_f nf l') fun r2 =>
    l0 l' r2 0 r2.fst 0
def term_Uses_l0 (nf : Nat) (l' : List (Int × Int × Int × Int × Unit)) (r2 : List Bool × Unit) : Nat → Int → List Bool → Int → Option (Int × Int × Unit)
  | 0, _, _, _ => none
  | fu + 1, s, t17, t19 => term_Uses_b0 nf  l' r2  (term_Uses_l0 nf l' r2  fu) s t17 t19
def term_Uses_f (nf : Nat) (vars : Int) (l' : List (Int × Int × Int × Int × Unit)) : Option (Int × Int × Unit) := term_Uses_p nf (fun p0 p1 v0 v1 v2 => term_Uses_l0 nf p0 p1 nf v0 v1 v2) vars l'
noncomputable def term_Uses_L0 (nf : Nat) : LC (Int × Int × Unit) := theL (findL tab (term_Uses_phi nf) (fun _ F => iter nf F) term_Uses_keep 0 0 (codeOf Try.f22) (fin tab [(Ty.int IntKind.u32, Md.bor false true), (Ty.int IntKind.i64, Md.bor false true)] (resL ([]) Try.f22)) (fun _ _ => none) (fin tab [(Ty.int IntKind.u32, Md.bor false true), (Ty.int IntKind.i64, Md.bor false true)] (resL ([]) Try.f22)))
def term_Uses_m0 (l' : List (Int × Int × Int × Int × Unit)) (r2 : List Bool × Unit) (s : Int) (t17 : List Bool) (t19 : Int) : St := ⟨fresh, [(1, AV.v ((Ty.int IntKind.i64).pair ((Ty.int IntKind.i64).pair ((Ty.int IntKind.i64).pair ((Ty.int IntKind.i64).pair Ty.unit)))).sl (Md.bor true false) l'), (7, AV.v (Ty.int IntKind.u32) (Md.bor false true) s), (17, AV.ow 500017 Ty.bool.sl (Md.own false (Md.bor false false)) t17), (18, AV.v (Ty.int IntKind.i64) (Md.bor false true) (↑(List.length r2.fst) : Int)), (19, AV.v (Ty.int IntKind.i64) (Md.bor false true) t19)]⟩
theorem term_Uses_h0 (nf : Nat)  (l' : List (Int × Int × Int × Int × Unit)) (r2 : List Bool × Unit) (fu : Nat) (s : Int) (t17 : List Bool) (t19 : Int) : iter (fu + 1) (LC.F tab (term_Uses_phi nf) (fun _ F => iter nf F) term_Uses_keep 0 (term_Uses_L0 nf )) (term_Uses_m0 l' r2 s t17 t19) = term_Uses_b0 nf  l' r2  (fun s t17 t19 => iter fu (LC.F tab (term_Uses_phi nf) (fun _ F => iter nf F) term_Uses_keep 0 (term_Uses_L0 nf )) (term_Uses_m0 l' r2 s t17 t19)) s t17 t19 := by kernel_rfl
theorem term_Uses_e0 (nf : Nat)  (l' : List (Int × Int × Int × Int × Unit)) (r2 : List Bool × Unit) : ∀ (fu : Nat) (s : Int) (t17 : List Bool) (t19 : Int), iter fu (LC.F tab (term_Uses_phi nf) (fun _ F => iter nf F) term_Uses_keep 0 (term_Uses_L0 nf )) (term_Uses_m0 l' r2 s t17 t19) = term_Uses_l0 nf l' r2  fu s t17 t19 := by
  intro fu
  induction fu with
  | zero => intros; rfl
  | succ fu ih =>
    intro s t17 t19
    rw [term_Uses_h0 nf  l' r2 fu s t17 t19]
    simp only [ih]
    rfl
theorem term_Uses_eq (nf : Nat) (vars : Int) (l' : List (Int × Int × Int × Int × Unit)) : runF tab (term_Uses_phi nf) term_Uses_keep nf [PT.val (Ty.int IntKind.i64) (Md.bor true false), PT.val ((Ty.int IntKind.i64).pair ((Ty.int IntKind.i64).pair ((Ty.int IntKind.i64).pair ((Ty.int IntKind.i64).pair Ty.unit)))).sl (Md.bor true false)] [(Ty.int IntKind.u32, Md.bor false true), (Ty.int IntKind.i64, Md.bor false true)] (resL ([]) Try.f22) (codeOf Try.f22) ⟨vars, l', ()⟩ = term_Uses_f nf vars l' := by
  have h : runF tab (term_Uses_phi nf) term_Uses_keep nf [PT.val (Ty.int IntKind.i64) (Md.bor true false), PT.val ((Ty.int IntKind.i64).pair ((Ty.int IntKind.i64).pair ((Ty.int IntKind.i64).pair ((Ty.int IntKind.i64).pair Ty.unit)))).sl (Md.bor true false)] [(Ty.int IntKind.u32, Md.bor false true), (Ty.int IntKind.i64, Md.bor false true)] (resL ([]) Try.f22) (codeOf Try.f22) ⟨vars, l', ()⟩ = term_Uses_p nf (fun p0 p1 v0 v1 v2 => iter nf (LC.F tab (term_Uses_phi nf) (fun _ F => iter nf F) term_Uses_keep 0 (term_Uses_L0 nf)) (term_Uses_m0 p0 p1 v0 v1 v2)) vars l' := by kernel_rfl
  rw [h]
  simp only [term_Uses_e0]
  rfl
def term_Uses_F (nf : Nat) (x : denPs [.val (.int .i64) (.bor true false), .val (.sl (.pair (.int .i64) (.pair (.int .i64) (.pair (.int .i64) (.pair (.int .i64) (.unit)))))) (.bor true false)]) : Option (denL [(.int .u32, .bor false true), (.int .i64, .bor false true)]) := term_Uses_f nf x.1 x.2.1
def term_Uses_C (nf : Nat) : Contract := ⟨[.val (.int .i64) (.bor true false), .val (.sl (.pair (.int .i64) (.pair (.int .i64) (.pair (.int .i64) (.pair (.int .i64) (.unit)))))) (.bor true false)], [(.int .u32, .bor false true), (.int .i64, .bor false true)], term_Uses_F nf, []⟩
theorem term_Uses_ok : FnOK Try.prog 22 := ⟨Try.f22, codeOf Try.f22, Try.func22, by kernel_rfl, by kernel_rfl⟩
theorem term_Uses_holds (nf : Nat) : Contract.Holds Try.prog 22 (term_Uses_C nf) :=
  fn_holds (Φ := term_Uses_phi nf) (keep := term_Uses_keep) (n := nf) ⟨tabs.1, tabs.2, (ctx_cons term_Check_ok (term_Check_holds nf) (ctx_cons term_used_ok (term_used_holds nf) ctx_nil)), mixed, bk_ok bkls rfl⟩ (fn := Try.f22) ⟨Try.func22, by kernel_rfl, by kernel_rfl, by kernel_rfl⟩ (fun x => term_Uses_eq nf x.1 x.2.1)

/-! codemason codemasonref.Has -/
def ref_Has_phi (nf : Nat) : Nat → Option Contract := lookC []
def ref_Has_keep : Nat → List Nat := lookK [(0, [0, 1, 7, 8, 9])]
def ref_Has_b0 (nf : Nat) (l' : List Int) (x : Int) (g0 : Int → Option (Bool × Unit)) (t9 : Int) : Option (Bool × Unit) :=
  bif decide (t9 < (↑l'.length : Int)) then
    bif inb t9 l'.length then
      bif x == l'.getD t9.toNat 0 then
        some ((true, ()))
      else
        g0 (IntKind.i64.wrap (t9 + 1))
    else
      none
  else
    some ((false, ()))
def ref_Has_p (nf : Nat) (l0 : List Int → Int → Int → Option (Bool × Unit)) (l' : List Int) (x : Int) : Option (Bool × Unit) :=
  l0 l' x 0
def ref_Has_l0 (nf : Nat) (l' : List Int) (x : Int) : Nat → Int → Option (Bool × Unit)
  | 0, _ => none
  | fu + 1, t9 => ref_Has_b0 nf  l' x  (ref_Has_l0 nf l' x  fu) t9
def ref_Has_f (nf : Nat) (l' : List Int) (x : Int) : Option (Bool × Unit) := ref_Has_p nf (fun p0 p1 v0 => ref_Has_l0 nf p0 p1 nf v0) l' x
noncomputable def ref_Has_L0 (nf : Nat) : LC (Bool × Unit) := theL (findL tab (ref_Has_phi nf) (fun _ F => iter nf F) ref_Has_keep 0 0 (codeOf Try.f65) (fin tab [(Ty.bool, Md.bor false true)] (resL ([]) Try.f65)) (fun _ _ => none) (fin tab [(Ty.bool, Md.bor false true)] (resL ([]) Try.f65)))
def ref_Has_m0 (l' : List Int) (x : Int) (t9 : Int) : St := ⟨fresh, [(0, AV.v (Ty.int IntKind.i64).sl (Md.bor true false) l'), (1, AV.v (Ty.int IntKind.i64) (Md.bor false true) x), (7, AV.v (Ty.int IntKind.i64).sl (Md.bor true false) l'), (8, AV.v (Ty.int IntKind.i64) (Md.bor false true) (↑l'.length : Int)), (9, AV.v (Ty.int IntKind.i64) (Md.bor false true) t9)]⟩
theorem ref_Has_h0 (nf : Nat)  (l' : List Int) (x : Int) (fu : Nat) (t9 : Int) : iter (fu + 1) (LC.F tab (ref_Has_phi nf) (fun _ F => iter nf F) ref_Has_keep 0 (ref_Has_L0 nf )) (ref_Has_m0 l' x t9) = ref_Has_b0 nf  l' x  (fun t9 => iter fu (LC.F tab (ref_Has_phi nf) (fun _ F => iter nf F) ref_Has_keep 0 (ref_Has_L0 nf )) (ref_Has_m0 l' x t9)) t9 := by kernel_rfl
theorem ref_Has_e0 (nf : Nat)  (l' : List Int) (x : Int) : ∀ (fu : Nat) (t9 : Int), iter fu (LC.F tab (ref_Has_phi nf) (fun _ F => iter nf F) ref_Has_keep 0 (ref_Has_L0 nf )) (ref_Has_m0 l' x t9) = ref_Has_l0 nf l' x  fu t9 := by
  intro fu
  induction fu with
  | zero => intros; rfl
  | succ fu ih =>
    intro t9
    rw [ref_Has_h0 nf  l' x fu t9]
    simp only [ih]
    rfl
theorem ref_Has_eq (nf : Nat) (l' : List Int) (x : Int) : runF tab (ref_Has_phi nf) ref_Has_keep nf [PT.val (Ty.int IntKind.i64).sl (Md.bor true false), PT.val (Ty.int IntKind.i64) (Md.bor true false)] [(Ty.bool, Md.bor false true)] (resL ([]) Try.f65) (codeOf Try.f65) ⟨l', x, ()⟩ = ref_Has_f nf l' x := by
  have h : runF tab (ref_Has_phi nf) ref_Has_keep nf [PT.val (Ty.int IntKind.i64).sl (Md.bor true false), PT.val (Ty.int IntKind.i64) (Md.bor true false)] [(Ty.bool, Md.bor false true)] (resL ([]) Try.f65) (codeOf Try.f65) ⟨l', x, ()⟩ = ref_Has_p nf (fun p0 p1 v0 => iter nf (LC.F tab (ref_Has_phi nf) (fun _ F => iter nf F) ref_Has_keep 0 (ref_Has_L0 nf)) (ref_Has_m0 p0 p1 v0)) l' x := by kernel_rfl
  rw [h]
  simp only [ref_Has_e0]
  rfl
def ref_Has_F (nf : Nat) (x : denPs [.val (.sl (.int .i64)) (.bor true false), .val (.int .i64) (.bor true false)]) : Option (denL [(.bool, .bor false true)]) := ref_Has_f nf x.1 x.2.1
def ref_Has_C (nf : Nat) : Contract := ⟨[.val (.sl (.int .i64)) (.bor true false), .val (.int .i64) (.bor true false)], [(.bool, .bor false true)], ref_Has_F nf, []⟩
theorem ref_Has_ok : FnOK Try.prog 65 := ⟨Try.f65, codeOf Try.f65, Try.func65, by kernel_rfl, by kernel_rfl⟩
theorem ref_Has_holds (nf : Nat) : Contract.Holds Try.prog 65 (ref_Has_C nf) :=
  fn_holds (Φ := ref_Has_phi nf) (keep := ref_Has_keep) (n := nf) ⟨tabs.1, tabs.2, ctx_nil, mixed, bk_ok bkls rfl⟩ (fn := Try.f65) ⟨Try.func65, by kernel_rfl, by kernel_rfl, by kernel_rfl⟩ (fun x => ref_Has_eq nf x.1 x.2.1)

/-! codemason codemasonref.Comes -/
def ref_Comes_phi (nf : Nat) : Nat → Option Contract := lookC [(65, ref_Has_C nf)]
def ref_Comes_keep : Nat → List Nat := lookK [(4, [1, 5, 10, 11, 13, 47, 60]), (2, [0, 1, 5, 6, 13, 34, 35, 36, 47, 60]), (0, [0, 1, 5, 6, 13, 47, 60])]
def ref_Comes_b0 (nf : Nat) (l2 : List (Int × Int × Int × Int × Unit) → Int → Int → List Int → List Int → List Int → Int → Option (List Int × Unit)) (l4 : Int → List Int → List Int → Int → Option (List Int × Unit)) (l' : List (Int × Int × Int × Int × Unit)) (i : Int) (g0 : List Int → Int → Option (List Int × Unit)) (here : List Int) (k' : Int) : Option (List Int × Unit) :=
  bif decide (k' < (↑here.length : Int)) then
    bif inb k' here.length then
      bif inb (here.getD k'.toNat 0) l'.length then
        bif decide ((l'.getD (Int.toNat (here.getD k'.toNat 0)) (0, 0, 0, 0, ())).fst ≥ 3) then
          l2 l' i k' here here ([(l'.getD (Int.toNat (here.getD k'.toNat 0)) (0, 0, 0, 0, ())).snd.fst, (l'.getD (Int.toNat (here.getD k'.toNat 0)) (0, 0, 0, 0, ())).snd.snd.fst]) 0
        else
          g0 here (IntKind.i64.wrap (k' + 1))
      else
        none
    else
      none
  else
    l4 i here [] 0
def ref_Comes_b2 (nf : Nat) (l' : List (Int × Int × Int × Int × Unit)) (i : Int) (k' : Int) (here : List Int) (g0 : List Int → Int → Option (List Int × Unit)) (g2 : List Int → List Int → Int → Option (List Int × Unit)) (here2 : List Int) (t34 : List Int) (t36 : Int) : Option (List Int × Unit) :=
  bif decide (t36 < (↑[(l'.getD (Int.toNat (here.getD k'.toNat 0)) (0, 0, 0, 0, ())).snd.fst, (l'.getD (Int.toNat (here.getD k'.toNat 0)) (0, 0, 0, 0, ())).snd.snd.fst].length : Int)) then
    bif inb t36 t34.length then
      Option.bind (ref_Has_f nf here2 (t34.getD t36.toNat 0)) fun r =>
      bif !r.fst then
        bif bimp false ![t34.getD t36.toNat 0].isEmpty && (here2.length + [t34.getD t36.toNat 0].length).ble lim then
          g2 (here2 ++ [t34.getD t36.toNat 0]) t34 (IntKind.i64.wrap (t36 + 1))
        else
          none
      else
        g2 here2 t34 (IntKind.i64.wrap (t36 + 1))
    else
      none
  else
    g0 here2 (IntKind.i64.wrap (k' + 1))
def ref_Comes_b4 (nf : Nat) (i : Int) (g4 : List Int → List Int → Int → Option (List Int × Unit)) (here3 : List Int) (out : List Int) (j : Int) : Option (List Int × Unit) :=
  bif decide (j ≤ i) then
    Option.bind (ref_Has_f nf here3 j) fun r2 =>
    bif r2.fst then
      bif bimp false ![j].isEmpty && (out.length + [j].length).ble lim then
        g4 here3 (out ++ [j]) (IntKind.i64.wrap (j + 1))
      else
        none
    else
      g4 here3 out (IntKind.i64.wrap (j + 1))
  else
    some ((out, ()))
def ref_Comes_p (nf : Nat) (l0 : List (Int × Int × Int × Int × Unit) → Int → List Int → Int → Option (List Int × Unit)) (l' : List (Int × Int × Int × Int × Unit)) (i : Int) : Option (List Int × Unit) :=
  l0 l' i [i] 0
def ref_Comes_l4 (nf : Nat) (i : Int) : Nat → List Int → List Int → Int → Option (List Int × Unit)
  | 0, _, _, _ => none
  | fu + 1, here3, out, j => ref_Comes_b4 nf  i  (ref_Comes_l4 nf i  fu) here3 out j
def ref_Comes_l2 (nf : Nat) (l' : List (Int × Int × Int × Int × Unit)) (i : Int) (k' : Int) (here : List Int) (g0 : List Int → Int → Option (List Int × Unit)) : Nat → List Int → List Int → Int → Option (List Int × Unit)
  | 0, _, _, _ => none
  | fu + 1, here2, t34, t36 => ref_Comes_b2 nf  l' i k' here g0 (ref_Comes_l2 nf l' i k' here g0 fu) here2 t34 t36
def ref_Comes_l0 (nf : Nat) (l' : List (Int × Int × Int × Int × Unit)) (i : Int) : Nat → List Int → Int → Option (List Int × Unit)
  | 0, _, _ => none
  | fu + 1, here, k' => ref_Comes_b0 nf (fun _ _ p2 p3 v0 v1 v2 => ref_Comes_l2 nf l' i p2 p3 (fun here k' => ref_Comes_l0 nf l' i  fu here k') nf v0 v1 v2) (fun _ v0 v1 v2 => ref_Comes_l4 nf i  nf v0 v1 v2) l' i  (ref_Comes_l0 nf l' i  fu) here k'
def ref_Comes_f (nf : Nat) (l' : List (Int × Int × Int × Int × Unit)) (i : Int) : Option (List Int × Unit) := ref_Comes_p nf (fun p0 p1 v0 v1 => ref_Comes_l0 nf p0 p1 nf v0 v1) l' i
noncomputable def ref_Comes_L0 (nf : Nat) : LC (List Int × Unit) := theL (findL tab (ref_Comes_phi nf) (fun _ F => iter nf F) ref_Comes_keep 0 0 (codeOf Try.f23) (fin tab [((Ty.int IntKind.i64).sl, Md.own false (Md.bor false false))] (resL ([]) Try.f23)) (fun _ _ => none) (fin tab [((Ty.int IntKind.i64).sl, Md.own false (Md.bor false false))] (resL ([]) Try.f23)))
def ref_Comes_m0 (l' : List (Int × Int × Int × Int × Unit)) (i : Int) (here : List Int) (k' : Int) : St := ⟨fresh, [(0, AV.v ((Ty.int IntKind.i64).pair ((Ty.int IntKind.i64).pair ((Ty.int IntKind.i64).pair ((Ty.int IntKind.i64).pair Ty.unit)))).sl (Md.bor true false) l'), (1, AV.v (Ty.int IntKind.i64) (Md.bor false true) i), (5, AV.ow 500005 (Ty.int IntKind.i64).sl (Md.own false (Md.bor false false)) here), (6, AV.v (Ty.int IntKind.i64) (Md.bor false true) k'), (13, AV.dead), (47, AV.dead), (60, AV.dead)]⟩
noncomputable def ref_Comes_L2 (nf : Nat) (G0 : St → Option (List Int × Unit)) : LC (List Int × Unit) := theL (findL tab (ref_Comes_phi nf) (fun _ F => iter nf F) ref_Comes_keep 2 0 (ref_Comes_L0 nf ).c (fun st => norm (ref_Comes_keep 0) st G0) (ref_Comes_L0 nf ).Kx (ref_Comes_L0 nf ).Kr)
def ref_Comes_m2 (l' : List (Int × Int × Int × Int × Unit)) (i : Int) (k' : Int) (here : List Int) (here2 : List Int) (t34 : List Int) (t36 : Int) : St := ⟨fresh, [(0, AV.v ((Ty.int IntKind.i64).pair ((Ty.int IntKind.i64).pair ((Ty.int IntKind.i64).pair ((Ty.int IntKind.i64).pair Ty.unit)))).sl (Md.bor true false) l'), (1, AV.v (Ty.int IntKind.i64) (Md.bor false true) i), (5, AV.ow 500005 (Ty.int IntKind.i64).sl (Md.own false (Md.bor false false)) here2), (6, AV.v (Ty.int IntKind.i64) (Md.bor false true) k'), (13, AV.dead), (34, AV.ow 500034 (Ty.int IntKind.i64).sl (Md.own false (Md.bor false false)) t34), (35, AV.v (Ty.int IntKind.i64) (Md.bor false true) (↑[(l'.getD (Int.toNat (here.getD k'.toNat 0)) (0, 0, 0, 0, ())).snd.fst, (l'.getD (Int.toNat (here.getD k'.toNat 0)) (0, 0, 0, 0, ())).snd.snd.fst].length : Int)), (36, AV.v (Ty.int IntKind.i64) (Md.bor false true) t36), (47, AV.dead), (60, AV.dead)]⟩
noncomputable def ref_Comes_L4 (nf : Nat) : LC (List Int × Unit) := theL (findL tab (ref_Comes_phi nf) (fun _ F => iter nf F) ref_Comes_keep 4 0 (codeOf Try.f23) (fin tab [((Ty.int IntKind.i64).sl, Md.own false (Md.bor false false))] (resL ([]) Try.f23)) (fun _ _ => none) (fin tab [((Ty.int IntKind.i64).sl, Md.own false (Md.bor false false))] (resL ([]) Try.f23)))
def ref_Comes_m4 (i : Int) (here3 : List Int) (out : List Int) (j : Int) : St := ⟨fresh, [(1, AV.v (Ty.int IntKind.i64) (Md.bor false true) i), (5, AV.ow 500005 (Ty.int IntKind.i64).sl (Md.own false (Md.bor false false)) here3), (10, AV.ow 500010 (Ty.int IntKind.i64).sl (Md.own false (Md.bor false false)) out), (11, AV.v (Ty.int IntKind.i64) (Md.bor false true) j), (13, AV.dead), (47, AV.dead), (60, AV.dead)]⟩
theorem ref_Comes_h4 (nf : Nat)  (i : Int) (fu : Nat) (here3 : List Int) (out : List Int) (j : Int) : iter (fu + 1) (LC.F tab (ref_Comes_phi nf) (fun _ F => iter nf F) ref_Comes_keep 4 (ref_Comes_L4 nf )) (ref_Comes_m4 i here3 out j) = ref_Comes_b4 nf  i  (fun here3 out j => iter fu (LC.F tab (ref_Comes_phi nf) (fun _ F => iter nf F) ref_Comes_keep 4 (ref_Comes_L4 nf )) (ref_Comes_m4 i here3 out j)) here3 out j := by kernel_rfl
theorem ref_Comes_e4 (nf : Nat)  (i : Int) : ∀ (fu : Nat) (here3 : List Int) (out : List Int) (j : Int), iter fu (LC.F tab (ref_Comes_phi nf) (fun _ F => iter nf F) ref_Comes_keep 4 (ref_Comes_L4 nf )) (ref_Comes_m4 i here3 out j) = ref_Comes_l4 nf i  fu here3 out j := by
  intro fu
  induction fu with
  | zero => intros; rfl
  | succ fu ih =>
    intro here3 out j
    rw [ref_Comes_h4 nf  i fu here3 out j]
    simp only [ih]
    rfl
theorem ref_Comes_h2 (nf : Nat) (G0 : St → Option (List Int × Unit)) (l' : List (Int × Int × Int × Int × Unit)) (i : Int) (k' : Int) (here : List Int) (fu : Nat) (here2 : List Int) (t34 : List Int) (t36 : Int) : iter (fu + 1) (LC.F tab (ref_Comes_phi nf) (fun _ F => iter nf F) ref_Comes_keep 2 (ref_Comes_L2 nf G0)) (ref_Comes_m2 l' i k' here here2 t34 t36) = ref_Comes_b2 nf  l' i k' here (fun here k' => G0 (ref_Comes_m0 l' i here k')) (fun here2 t34 t36 => iter fu (LC.F tab (ref_Comes_phi nf) (fun _ F => iter nf F) ref_Comes_keep 2 (ref_Comes_L2 nf G0)) (ref_Comes_m2 l' i k' here here2 t34 t36)) here2 t34 t36 := by kernel_rfl
theorem ref_Comes_e2 (nf : Nat) (G0 : St → Option (List Int × Unit)) (l' : List (Int × Int × Int × Int × Unit)) (i : Int) (k' : Int) (here : List Int) : ∀ (fu : Nat) (here2 : List Int) (t34 : List Int) (t36 : Int), iter fu (LC.F tab (ref_Comes_phi nf) (fun _ F => iter nf F) ref_Comes_keep 2 (ref_Comes_L2 nf G0)) (ref_Comes_m2 l' i k' here here2 t34 t36) = ref_Comes_l2 nf l' i k' here (fun here k' => G0 (ref_Comes_m0 l' i here k')) fu here2 t34 t36 := by
  intro fu
  induction fu with
  | zero => intros; rfl
  | succ fu ih =>
    intro here2 t34 t36
    rw [ref_Comes_h2 nf G0 l' i k' here fu here2 t34 t36]
    simp only [ih]
    rfl
theorem ref_Comes_h0 (nf : Nat)  (l' : List (Int × Int × Int × Int × Unit)) (i : Int) (fu : Nat) (here : List Int) (k' : Int) : iter (fu + 1) (LC.F tab (ref_Comes_phi nf) (fun _ F => iter nf F) ref_Comes_keep 0 (ref_Comes_L0 nf )) (ref_Comes_m0 l' i here k') = ref_Comes_b0 nf (fun _ _ p2 p3 v0 v1 v2 => iter nf (LC.F tab (ref_Comes_phi nf) (fun _ F => iter nf F) ref_Comes_keep 2 (ref_Comes_L2 nf (iter fu (LC.F tab (ref_Comes_phi nf) (fun _ F => iter nf F) ref_Comes_keep 0 (ref_Comes_L0 nf ))))) (ref_Comes_m2 l' i p2 p3 v0 v1 v2)) (fun _ v0 v1 v2 => iter nf (LC.F tab (ref_Comes_phi nf) (fun _ F => iter nf F) ref_Comes_keep 4 (ref_Comes_L4 nf )) (ref_Comes_m4 i v0 v1 v2)) l' i  (fun here k' => iter fu (LC.F tab (ref_Comes_phi nf) (fun _ F => iter nf F) ref_Comes_keep 0 (ref_Comes_L0 nf )) (ref_Comes_m0 l' i here k')) here k' := by kernel_rfl
theorem ref_Comes_e0 (nf : Nat)  (l' : List (Int × Int × Int × Int × Unit)) (i : Int) : ∀ (fu : Nat) (here : List Int) (k' : Int), iter fu (LC.F tab (ref_Comes_phi nf) (fun _ F => iter nf F) ref_Comes_keep 0 (ref_Comes_L0 nf )) (ref_Comes_m0 l' i here k') = ref_Comes_l0 nf l' i  fu here k' := by
  intro fu
  induction fu with
  | zero => intros; rfl
  | succ fu ih =>
    intro here k'
    rw [ref_Comes_h0 nf  l' i fu here k']
    simp only [ih, ref_Comes_e2, ref_Comes_e4]
    rfl
theorem ref_Comes_eq (nf : Nat) (l' : List (Int × Int × Int × Int × Unit)) (i : Int) : runF tab (ref_Comes_phi nf) ref_Comes_keep nf [PT.val ((Ty.int IntKind.i64).pair ((Ty.int IntKind.i64).pair ((Ty.int IntKind.i64).pair ((Ty.int IntKind.i64).pair Ty.unit)))).sl (Md.bor true false), PT.val (Ty.int IntKind.i64) (Md.bor true false)] [((Ty.int IntKind.i64).sl, Md.own false (Md.bor false false))] (resL ([]) Try.f23) (codeOf Try.f23) ⟨l', i, ()⟩ = ref_Comes_f nf l' i := by
  have h : runF tab (ref_Comes_phi nf) ref_Comes_keep nf [PT.val ((Ty.int IntKind.i64).pair ((Ty.int IntKind.i64).pair ((Ty.int IntKind.i64).pair ((Ty.int IntKind.i64).pair Ty.unit)))).sl (Md.bor true false), PT.val (Ty.int IntKind.i64) (Md.bor true false)] [((Ty.int IntKind.i64).sl, Md.own false (Md.bor false false))] (resL ([]) Try.f23) (codeOf Try.f23) ⟨l', i, ()⟩ = ref_Comes_p nf (fun p0 p1 v0 v1 => iter nf (LC.F tab (ref_Comes_phi nf) (fun _ F => iter nf F) ref_Comes_keep 0 (ref_Comes_L0 nf)) (ref_Comes_m0 p0 p1 v0 v1)) l' i := by kernel_rfl
  rw [h]
  simp only [ref_Comes_e0]
  rfl
def ref_Comes_F (nf : Nat) (x : denPs [.val (.sl (.pair (.int .i64) (.pair (.int .i64) (.pair (.int .i64) (.pair (.int .i64) (.unit)))))) (.bor true false), .val (.int .i64) (.bor true false)]) : Option (denL [(.sl (.int .i64), .own false (.bor false false))]) := ref_Comes_f nf x.1 x.2.1
def ref_Comes_C (nf : Nat) : Contract := ⟨[.val (.sl (.pair (.int .i64) (.pair (.int .i64) (.pair (.int .i64) (.pair (.int .i64) (.unit)))))) (.bor true false), .val (.int .i64) (.bor true false)], [(.sl (.int .i64), .own false (.bor false false))], ref_Comes_F nf, []⟩
theorem ref_Comes_ok : FnOK Try.prog 23 := ⟨Try.f23, codeOf Try.f23, Try.func23, by kernel_rfl, by kernel_rfl⟩
theorem ref_Comes_holds (nf : Nat) : Contract.Holds Try.prog 23 (ref_Comes_C nf) :=
  fn_holds (Φ := ref_Comes_phi nf) (keep := ref_Comes_keep) (n := nf) ⟨tabs.1, tabs.2, (ctx_cons ref_Has_ok (ref_Has_holds nf) ctx_nil), mixed, bk_ok bkls rfl⟩ (fn := Try.f23) ⟨Try.func23, by kernel_rfl, by kernel_rfl, by kernel_rfl⟩ (fun x => ref_Comes_eq nf x.1 x.2.1)

/-! codemason codemasonlaw.TermUses -/
def law_TermUses_phi (nf : Nat) : Nat → Option Contract := lookC [(21, ref_TermsCheck_C nf), (22, term_Uses_C nf), (23, ref_Comes_C nf)]
def law_TermUses_keep : Nat → List Nat := lookK [(0, [1, 5, 6, 8, 33, 34, 35])]
def law_TermUses_b0 (nf : Nat) (l' : List (Int × Int × Int × Int × Unit)) (r : Int × Int × Unit) (r3 : List Int × Unit) (g0 : Int → List Int → Int → Option (Bool × Unit)) (want : Int) (t33 : List Int) (t35 : Int) : Option (Bool × Unit) :=
  bif decide (t35 < (↑(List.length r3.fst) : Int)) then
    bif inb t35 t33.length then
      bif inb (t33.getD t35.toNat 0) l'.length then
        bif (l'.getD (Int.toNat (t33.getD t35.toNat 0)) (0, 0, 0, 0, ())).fst == 2 then
          bif inb (t33.getD t35.toNat 0) l'.length then
            bif decide (0 ≤ IntKind.u64.wrap (l'.getD (Int.toNat (t33.getD t35.toNat 0)) (0, 0, 0, 0, ())).snd.snd.snd.fst) then
              g0 (IntKind.u32.wrap (↑(BitVec.ofInt IntKind.u32.bits want ||| BitVec.ofInt IntKind.u32.bits (shlI IntKind.u32 1 (IntKind.u64.wrap (l'.getD (Int.toNat (t33.getD t35.toNat 0)) (0, 0, 0, 0, ())).snd.snd.snd.fst))).toNat : Int)) t33 (IntKind.i64.wrap (t35 + 1))
            else
              none
          else
            none
        else
          g0 want t33 (IntKind.i64.wrap (t35 + 1))
      else
        none
    else
      none
  else
    bif r.snd.fst == 0 then
      some ((r.fst == want, ()))
    else
      some ((false, ()))
def law_TermUses_p (nf : Nat) (l0 : List (Int × Int × Int × Int × Unit) → Int × Int × Unit → List Int × Unit → Int → List Int → Int → Option (Bool × Unit)) (vars : Int) (l' : List (Int × Int × Int × Int × Unit)) : Option (Bool × Unit) :=
  Option.bind (term_Uses_f nf vars l') fun r =>
  Option.bind (ref_TermsCheck_f nf vars l') fun r2 =>
  bif r2.fst != 0 then
    bif r.snd.fst == r2.fst then
      some ((r.fst == 0, ()))
    else
      some ((false, ()))
  else
    Option.bind (ref_Comes_f nf l' (IntKind.i64.wrap ((↑l'.length : Int) - 1))) fun r3 =>
    l0 l' r r3 0 r3.fst 0
def law_TermUses_l0 (nf : Nat) (l' : List (Int × Int × Int × Int × Unit)) (r : Int × Int × Unit) (r3 : List Int × Unit) : Nat → Int → List Int → Int → Option (Bool × Unit)
  | 0, _, _, _ => none
  | fu + 1, want, t33, t35 => law_TermUses_b0 nf  l' r r3  (law_TermUses_l0 nf l' r r3  fu) want t33 t35
def law_TermUses_f (nf : Nat) (vars : Int) (l' : List (Int × Int × Int × Int × Unit)) : Option (Bool × Unit) := law_TermUses_p nf (fun p0 p1 p2 v0 v1 v2 => law_TermUses_l0 nf p0 p1 p2 nf v0 v1 v2) vars l'
noncomputable def law_TermUses_L0 (nf : Nat) : LC (Bool × Unit) := theL (findL tab (law_TermUses_phi nf) (fun _ F => iter nf F) law_TermUses_keep 0 0 (codeOf Try.f4) (fin tab [(Ty.bool, Md.bor false true)] (resL ([]) Try.f4)) (fun _ _ => none) (fin tab [(Ty.bool, Md.bor false true)] (resL ([]) Try.f4)))
def law_TermUses_m0 (l' : List (Int × Int × Int × Int × Unit)) (r : Int × Int × Unit) (r3 : List Int × Unit) (want : Int) (t33 : List Int) (t35 : Int) : St := ⟨fresh, [(1, AV.v ((Ty.int IntKind.i64).pair ((Ty.int IntKind.i64).pair ((Ty.int IntKind.i64).pair ((Ty.int IntKind.i64).pair Ty.unit)))).sl (Md.bor false false) l'), (5, AV.v (Ty.int IntKind.u32) (Md.bor false true) r.fst), (6, AV.v (Ty.int IntKind.i64) (Md.bor false true) r.snd.fst), (8, AV.v (Ty.int IntKind.u32) (Md.bor false true) want), (33, AV.ow 500033 (Ty.int IntKind.i64).sl (Md.own false (Md.bor false false)) t33), (34, AV.v (Ty.int IntKind.i64) (Md.bor false true) (↑(List.length r3.fst) : Int)), (35, AV.v (Ty.int IntKind.i64) (Md.bor false true) t35)]⟩
theorem law_TermUses_h0 (nf : Nat)  (l' : List (Int × Int × Int × Int × Unit)) (r : Int × Int × Unit) (r3 : List Int × Unit) (fu : Nat) (want : Int) (t33 : List Int) (t35 : Int) : iter (fu + 1) (LC.F tab (law_TermUses_phi nf) (fun _ F => iter nf F) law_TermUses_keep 0 (law_TermUses_L0 nf )) (law_TermUses_m0 l' r r3 want t33 t35) = law_TermUses_b0 nf  l' r r3  (fun want t33 t35 => iter fu (LC.F tab (law_TermUses_phi nf) (fun _ F => iter nf F) law_TermUses_keep 0 (law_TermUses_L0 nf )) (law_TermUses_m0 l' r r3 want t33 t35)) want t33 t35 := by kernel_rfl
theorem law_TermUses_e0 (nf : Nat)  (l' : List (Int × Int × Int × Int × Unit)) (r : Int × Int × Unit) (r3 : List Int × Unit) : ∀ (fu : Nat) (want : Int) (t33 : List Int) (t35 : Int), iter fu (LC.F tab (law_TermUses_phi nf) (fun _ F => iter nf F) law_TermUses_keep 0 (law_TermUses_L0 nf )) (law_TermUses_m0 l' r r3 want t33 t35) = law_TermUses_l0 nf l' r r3  fu want t33 t35 := by
  intro fu
  induction fu with
  | zero => intros; rfl
  | succ fu ih =>
    intro want t33 t35
    rw [law_TermUses_h0 nf  l' r r3 fu want t33 t35]
    simp only [ih]
    rfl
theorem law_TermUses_eq (nf : Nat) (vars : Int) (l' : List (Int × Int × Int × Int × Unit)) : runF tab (law_TermUses_phi nf) law_TermUses_keep nf [PT.val (Ty.int IntKind.i64) (Md.bor false false), PT.val ((Ty.int IntKind.i64).pair ((Ty.int IntKind.i64).pair ((Ty.int IntKind.i64).pair ((Ty.int IntKind.i64).pair Ty.unit)))).sl (Md.bor false false)] [(Ty.bool, Md.bor false true)] (resL ([]) Try.f4) (codeOf Try.f4) ⟨vars, l', ()⟩ = law_TermUses_f nf vars l' := by
  have h : runF tab (law_TermUses_phi nf) law_TermUses_keep nf [PT.val (Ty.int IntKind.i64) (Md.bor false false), PT.val ((Ty.int IntKind.i64).pair ((Ty.int IntKind.i64).pair ((Ty.int IntKind.i64).pair ((Ty.int IntKind.i64).pair Ty.unit)))).sl (Md.bor false false)] [(Ty.bool, Md.bor false true)] (resL ([]) Try.f4) (codeOf Try.f4) ⟨vars, l', ()⟩ = law_TermUses_p nf (fun p0 p1 p2 v0 v1 v2 => iter nf (LC.F tab (law_TermUses_phi nf) (fun _ F => iter nf F) law_TermUses_keep 0 (law_TermUses_L0 nf)) (law_TermUses_m0 p0 p1 p2 v0 v1 v2)) vars l' := by kernel_rfl
  rw [h]
  simp only [law_TermUses_e0]
  rfl
def law_TermUses_F (nf : Nat) (x : denPs [.val (.int .i64) (.bor false false), .val (.sl (.pair (.int .i64) (.pair (.int .i64) (.pair (.int .i64) (.pair (.int .i64) (.unit)))))) (.bor false false)]) : Option (denL [(.bool, .bor false true)]) := law_TermUses_f nf x.1 x.2.1
def law_TermUses_C (nf : Nat) : Contract := ⟨[.val (.int .i64) (.bor false false), .val (.sl (.pair (.int .i64) (.pair (.int .i64) (.pair (.int .i64) (.pair (.int .i64) (.unit)))))) (.bor false false)], [(.bool, .bor false true)], law_TermUses_F nf, []⟩
theorem law_TermUses_ok : FnOK Try.prog 4 := ⟨Try.f4, codeOf Try.f4, Try.func4, by kernel_rfl, by kernel_rfl⟩
theorem law_TermUses_holds (nf : Nat) : Contract.Holds Try.prog 4 (law_TermUses_C nf) :=
  fn_holds (Φ := law_TermUses_phi nf) (keep := law_TermUses_keep) (n := nf) ⟨tabs.1, tabs.2, (ctx_cons ref_TermsCheck_ok (ref_TermsCheck_holds nf) (ctx_cons term_Uses_ok (term_Uses_holds nf) (ctx_cons ref_Comes_ok (ref_Comes_holds nf) ctx_nil))), mixed, bk_ok bkls rfl⟩ (fn := Try.f4) ⟨Try.func4, by kernel_rfl, by kernel_rfl, by kernel_rfl⟩ (fun x => law_TermUses_eq nf x.1 x.2.1)

/-! slices.Clone   codemason api.Term codemason api.Term  -/
def slices_Clone_phi (nf : Nat) : Nat → Option Contract := lookC []
def slices_Clone_keep : Nat → List Nat := lookK []
def slices_Clone_p (nf : Nat)  (s : List (Int × Int × Int × Int × Unit)) : Option (List (Int × Int × Int × Int × Unit) × Unit) :=
  bif s.isEmpty then
    both (some (([], ()))) (bif bimp false !s.isEmpty && ((List.length ([] : List Unit)) + s.length).ble lim then
      some (([] ++ s, ()))
    else
      none)
  else
    bif bimp false !s.isEmpty && ((List.length ([] : List Unit)) + s.length).ble lim then
      some (([] ++ s, ()))
    else
      none
def slices_Clone_f (nf : Nat) (s : List (Int × Int × Int × Int × Unit)) : Option (List (Int × Int × Int × Int × Unit) × Unit) := slices_Clone_p nf  s
theorem slices_Clone_eq (nf : Nat) (s : List (Int × Int × Int × Int × Unit)) : runF tab (slices_Clone_phi nf) slices_Clone_keep nf [PT.val ((Ty.int IntKind.i64).pair ((Ty.int IntKind.i64).pair ((Ty.int IntKind.i64).pair ((Ty.int IntKind.i64).pair Ty.unit)))).sl (Md.bor true false)] [(((Ty.int IntKind.i64).pair ((Ty.int IntKind.i64).pair ((Ty.int IntKind.i64).pair ((Ty.int IntKind.i64).pair Ty.unit)))).sl, Md.own false (Md.bor false false))] (resL ([]) Try.f69) (codeOf Try.f69) ⟨s, ()⟩ = slices_Clone_f nf s := by
  have h : runF tab (slices_Clone_phi nf) slices_Clone_keep nf [PT.val ((Ty.int IntKind.i64).pair ((Ty.int IntKind.i64).pair ((Ty.int IntKind.i64).pair ((Ty.int IntKind.i64).pair Ty.unit)))).sl (Md.bor true false)] [(((Ty.int IntKind.i64).pair ((Ty.int IntKind.i64).pair ((Ty.int IntKind.i64).pair ((Ty.int IntKind.i64).pair Ty.unit)))).sl, Md.own false (Md.bor false false))] (resL ([]) Try.f69) (codeOf Try.f69) ⟨s, ()⟩ = slices_Clone_p nf  s := by kernel_rfl
  exact h
def slices_Clone_F (nf : Nat) (x : denPs [.val (.sl (.pair (.int .i64) (.pair (.int .i64) (.pair (.int .i64) (.pair (.int .i64) (.unit)))))) (.bor true false)]) : Option (denL [(.sl (.pair (.int .i64) (.pair (.int .i64) (.pair (.int .i64) (.pair (.int .i64) (.unit))))), .own false (.bor false false))]) := slices_Clone_f nf x.1
def slices_Clone_C (nf : Nat) : Contract := ⟨[.val (.sl (.pair (.int .i64) (.pair (.int .i64) (.pair (.int .i64) (.pair (.int .i64) (.unit)))))) (.bor true false)], [(.sl (.pair (.int .i64) (.pair (.int .i64) (.pair (.int .i64) (.pair (.int .i64) (.unit))))), .own false (.bor false false))], slices_Clone_F nf, []⟩
theorem slices_Clone_ok : FnOK Try.prog 69 := ⟨Try.f69, codeOf Try.f69, Try.func69, by kernel_rfl, by kernel_rfl⟩
theorem slices_Clone_holds (nf : Nat) : Contract.Holds Try.prog 69 (slices_Clone_C nf) :=
  fn_holds (Φ := slices_Clone_phi nf) (keep := slices_Clone_keep) (n := nf) ⟨tabs.1, tabs.2, ctx_nil, mixed, bk_ok bkls rfl⟩ (fn := Try.f69) ⟨Try.func69, by kernel_rfl, by kernel_rfl, by kernel_rfl⟩ (fun x => slices_Clone_eq nf x.1)

/-! codemason term.Fold -/
def term_Fold_phi (nf : Nat) : Nat → Option Contract := lookC [(20, term_Check_C nf), (64, term_used_C nf), (67, term_Do_C nf), (69, slices_Clone_C nf)]
def term_Fold_keep : Nat → List Nat := lookK [(2, [1, 9, 10, 21, 72, 74, 75, 76, 110]), (0, [1, 21, 22, 23, 24, 110])]
def term_Fold_b0 (nf : Nat) (l2 : List Bool × Unit → List (Int × Int × Int × Int × Unit) → List Int → List (Int × Int × Int × Int × Unit) → List Bool → Int → Option (List (Int × Int × Int × Int × Unit) × Int × Unit)) (r2 : List (Int × Int × Int × Int × Unit) × Unit) (g0 : List (Int × Int × Int × Int × Unit) → Int → Option (List (Int × Int × Int × Int × Unit) × Int × Unit)) (l'2 : List (Int × Int × Int × Int × Unit)) (t24 : Int) : Option (List (Int × Int × Int × Int × Unit) × Int × Unit) :=
  bif decide (t24 < (↑(List.length r2.fst) : Int)) then
    bif inb t24 l'2.length then
      bif decide ((l'2.getD t24.toNat (0, 0, 0, 0, ())).fst > 2) then
        bif inb (l'2.getD t24.toNat (0, 0, 0, 0, ())).snd.fst l'2.length then
          bif (l'2.getD (Int.toNat (l'2.getD t24.toNat (0, 0, 0, 0, ())).snd.fst) (0, 0, 0, 0, ())).fst == 1 then
            bif inb (l'2.getD t24.toNat (0, 0, 0, 0, ())).snd.snd.fst l'2.length then
              bif (l'2.getD (Int.toNat (l'2.getD t24.toNat (0, 0, 0, 0, ())).snd.snd.fst) (0, 0, 0, 0, ())).fst == 1 then
                bif inb (l'2.getD t24.toNat (0, 0, 0, 0, ())).snd.fst l'2.length then
                  bif inb (l'2.getD t24.toNat (0, 0, 0, 0, ())).snd.snd.fst l'2.length then
                    Option.bind (term_Do_f nf ((l'2.getD t24.toNat (0, 0, 0, 0, ())).fst) ((l'2.getD (Int.toNat (l'2.getD t24.toNat (0, 0, 0, 0, ())).snd.fst) (0, 0, 0, 0, ())).snd.snd.snd.fst) ((l'2.getD (Int.toNat (l'2.getD t24.toNat (0, 0, 0, 0, ())).snd.snd.fst) (0, 0, 0, 0, ())).snd.snd.snd.fst)) fun r3 =>
                    bif inb t24 l'2.length then
                      g0 (l'2.set t24.toNat (1, 0, 0, r3.fst, ())) (IntKind.i64.wrap (t24 + 1))
                    else
                      none
                  else
                    none
                else
                  none
              else
                g0 l'2 (IntKind.i64.wrap (t24 + 1))
            else
              none
          else
            g0 l'2 (IntKind.i64.wrap (t24 + 1))
        else
          none
      else
        g0 l'2 (IntKind.i64.wrap (t24 + 1))
    else
      none
  else
    bif decide (0 ≤ (↑l'2.length : Int)) && decide ((↑l'2.length : Int) ≤ (↑l'2.length : Int)) && decide ((↑l'2.length : Int) ≤ (↑lim : Int)) then
      Option.bind (term_used_f nf l'2) fun r4 =>
      l2 r4 l'2 (List.replicate (↑l'2.length : Int).toNat 0) [] r4.fst 0
    else
      none
def term_Fold_b2 (nf : Nat) (r4 : List Bool × Unit) (g2 : List (Int × Int × Int × Int × Unit) → List Int → List (Int × Int × Int × Int × Unit) → List Bool → Int → Option (List (Int × Int × Int × Int × Unit) × Int × Unit)) (l'3 : List (Int × Int × Int × Int × Unit)) (number : List Int) (out : List (Int × Int × Int × Int × Unit)) (t74 : List Bool) (t76 : Int) : Option (List (Int × Int × Int × Int × Unit) × Int × Unit) :=
  bif decide (t76 < (↑(List.length r4.fst) : Int)) then
    bif inb t76 t74.length then
      bif !t74.getD t76.toNat false then
        g2 l'3 number out t74 (IntKind.i64.wrap (t76 + 1))
      else
        bif inb t76 number.length then
          bif inb t76 l'3.length then
            bif decide ((l'3.getD t76.toNat (0, 0, 0, 0, ())).fst > 2) then
              bif inb (l'3.getD t76.toNat (0, 0, 0, 0, ())).snd.fst (number.set t76.toNat (↑out.length : Int)).length then
                bif inb (l'3.getD t76.toNat (0, 0, 0, 0, ())).snd.snd.fst (number.set t76.toNat (↑out.length : Int)).length then
                  bif bimp false ![((l'3.getD t76.toNat (0, 0, 0, 0, ())).fst, (number.set t76.toNat (↑out.length : Int)).getD (Int.toNat (l'3.getD t76.toNat (0, 0, 0, 0, ())).snd.fst) 0, (number.set t76.toNat (↑out.length : Int)).getD (Int.toNat (l'3.getD t76.toNat (0, 0, 0, 0, ())).snd.snd.fst) 0, (l'3.getD t76.toNat (0, 0, 0, 0, ())).snd.snd.snd)].isEmpty && (out.length + [((l'3.getD t76.toNat (0, 0, 0, 0, ())).fst, (number.set t76.toNat (↑out.length : Int)).getD (Int.toNat (l'3.getD t76.toNat (0, 0, 0, 0, ())).snd.fst) 0, (number.set t76.toNat (↑out.length : Int)).getD (Int.toNat (l'3.getD t76.toNat (0, 0, 0, 0, ())).snd.snd.fst) 0, (l'3.getD t76.toNat (0, 0, 0, 0, ())).snd.snd.snd)].length).ble lim then
                    g2 l'3 (number.set t76.toNat (↑out.length : Int)) (out ++ [((l'3.getD t76.toNat (0, 0, 0, 0, ())).fst, (number.set t76.toNat (↑out.length : Int)).getD (Int.toNat (l'3.getD t76.toNat (0, 0, 0, 0, ())).snd.fst) 0, (number.set t76.toNat (↑out.length : Int)).getD (Int.toNat (l'3.getD t76.toNat (0, 0, 0, 0, ())).snd.snd.fst) 0, (l'3.getD t76.toNat (0, 0, 0, 0, ())).snd.snd.snd)]) t74 (IntKind.i64.wrap (t76 + 1))
                  else
                    none
                else
                  none
              else
                none
            else
              bif bimp false ![l'3.getD t76.toNat (0, 0, 0, 0, ())].isEmpty && (out.length + [l'3.getD t76.toNat (0, 0, 0, 0, ())].length).ble lim then
                g2 l'3 (number.set t76.toNat (↑out.length : Int)) (out ++ [l'3.getD t76.toNat (0, 0, 0, 0, ())]) t74 (IntKind.i64.wrap (t76 + 1))
              else
                none
          else
            none
        else
          none
    else
      none
  else
    some ((out, 0, ()))
def term_Fold_p (nf : Nat) (l0 : List (Int × Int × Int × Int × Unit) × Unit → List (Int × Int × Int × Int × Unit) → Int → Option (List (Int × Int × Int × Int × Unit) × Int × Unit)) (vars : Int) (l' : List (Int × Int × Int × Int × Unit)) : Option (List (Int × Int × Int × Int × Unit) × Int × Unit) :=
  Option.bind (term_Check_f nf vars l') fun r =>
  bif r.fst != 0 then
    some (([], r.fst, ()))
  else
    Option.bind (slices_Clone_f nf l') fun r2 =>
    l0 r2 r2.fst 0
def term_Fold_l2 (nf : Nat) (r4 : List Bool × Unit) : Nat → List (Int × Int × Int × Int × Unit) → List Int → List (Int × Int × Int × Int × Unit) → List Bool → Int → Option (List (Int × Int × Int × Int × Unit) × Int × Unit)
  | 0, _, _, _, _, _ => none
  | fu + 1, l'3, number, out, t74, t76 => term_Fold_b2 nf  r4  (term_Fold_l2 nf r4  fu) l'3 number out t74 t76
def term_Fold_l0 (nf : Nat) (r2 : List (Int × Int × Int × Int × Unit) × Unit) : Nat → List (Int × Int × Int × Int × Unit) → Int → Option (List (Int × Int × Int × Int × Unit) × Int × Unit)
  | 0, _, _ => none
  | fu + 1, l'2, t24 => term_Fold_b0 nf (fun p0 v0 v1 v2 v3 v4 => term_Fold_l2 nf p0  nf v0 v1 v2 v3 v4) r2  (term_Fold_l0 nf r2  fu) l'2 t24
def term_Fold_f (nf : Nat) (vars : Int) (l' : List (Int × Int × Int × Int × Unit)) : Option (List (Int × Int × Int × Int × Unit) × Int × Unit) := term_Fold_p nf (fun p0 v0 v1 => term_Fold_l0 nf p0 nf v0 v1) vars l'
noncomputable def term_Fold_L0 (nf : Nat) : LC (List (Int × Int × Int × Int × Unit) × Int × Unit) := theL (findL tab (term_Fold_phi nf) (fun _ F => iter nf F) term_Fold_keep 0 0 (codeOf Try.f27) (fin tab [(((Ty.int IntKind.i64).pair ((Ty.int IntKind.i64).pair ((Ty.int IntKind.i64).pair ((Ty.int IntKind.i64).pair Ty.unit)))).sl, Md.own false (Md.bor false false)), (Ty.int IntKind.i64, Md.bor false true)] (resL ([]) Try.f27)) (fun _ _ => none) (fin tab [(((Ty.int IntKind.i64).pair ((Ty.int IntKind.i64).pair ((Ty.int IntKind.i64).pair ((Ty.int IntKind.i64).pair Ty.unit)))).sl, Md.own false (Md.bor false false)), (Ty.int IntKind.i64, Md.bor false true)] (resL ([]) Try.f27)))
def term_Fold_m0 (r2 : List (Int × Int × Int × Int × Unit) × Unit) (l'2 : List (Int × Int × Int × Int × Unit)) (t24 : Int) : St := ⟨fresh, [(1, AV.ow 500001 ((Ty.int IntKind.i64).pair ((Ty.int IntKind.i64).pair ((Ty.int IntKind.i64).pair ((Ty.int IntKind.i64).pair Ty.unit)))).sl (Md.own false (Md.bor false false)) l'2), (21, AV.dead), (22, AV.al 1 500001 []), (23, AV.v (Ty.int IntKind.i64) (Md.bor false true) (↑(List.length r2.fst) : Int)), (24, AV.v (Ty.int IntKind.i64) (Md.bor false true) t24), (110, AV.dead)]⟩
noncomputable def term_Fold_L2 (nf : Nat) : LC (List (Int × Int × Int × Int × Unit) × Int × Unit) := theL (findL tab (term_Fold_phi nf) (fun _ F => iter nf F) term_Fold_keep 2 0 (codeOf Try.f27) (fin tab [(((Ty.int IntKind.i64).pair ((Ty.int IntKind.i64).pair ((Ty.int IntKind.i64).pair ((Ty.int IntKind.i64).pair Ty.unit)))).sl, Md.own false (Md.bor false false)), (Ty.int IntKind.i64, Md.bor false true)] (resL ([]) Try.f27)) (fun _ _ => none) (fin tab [(((Ty.int IntKind.i64).pair ((Ty.int IntKind.i64).pair ((Ty.int IntKind.i64).pair ((Ty.int IntKind.i64).pair Ty.unit)))).sl, Md.own false (Md.bor false false)), (Ty.int IntKind.i64, Md.bor false true)] (resL ([]) Try.f27)))
def term_Fold_m2 (r4 : List Bool × Unit) (l'3 : List (Int × Int × Int × Int × Unit)) (number : List Int) (out : List (Int × Int × Int × Int × Unit)) (t74 : List Bool) (t76 : Int) : St := ⟨fresh, [(1, AV.ow 500001 ((Ty.int IntKind.i64).pair ((Ty.int IntKind.i64).pair ((Ty.int IntKind.i64).pair ((Ty.int IntKind.i64).pair Ty.unit)))).sl (Md.own false (Md.bor false false)) l'3), (9, AV.ow 500009 (Ty.int IntKind.i64).sl (Md.own false (Md.bor false false)) number), (10, AV.ow 500010 ((Ty.int IntKind.i64).pair ((Ty.int IntKind.i64).pair ((Ty.int IntKind.i64).pair ((Ty.int IntKind.i64).pair Ty.unit)))).sl (Md.own false (Md.bor false false)) out), (21, AV.dead), (72, AV.dead), (74, AV.ow 500074 Ty.bool.sl (Md.own false (Md.bor false false)) t74), (75, AV.v (Ty.int IntKind.i64) (Md.bor false true) (↑(List.length r4.fst) : Int)), (76, AV.v (Ty.int IntKind.i64) (Md.bor false true) t76), (110, AV.dead)]⟩
theorem term_Fold_h2 (nf : Nat)  (r4 : List Bool × Unit) (fu : Nat) (l'3 : List (Int × Int × Int × Int × Unit)) (number : List Int) (out : List (Int × Int × Int × Int × Unit)) (t74 : List Bool) (t76 : Int) : iter (fu + 1) (LC.F tab (term_Fold_phi nf) (fun _ F => iter nf F) term_Fold_keep 2 (term_Fold_L2 nf )) (term_Fold_m2 r4 l'3 number out t74 t76) = term_Fold_b2 nf  r4  (fun l'3 number out t74 t76 => iter fu (LC.F tab (term_Fold_phi nf) (fun _ F => iter nf F) term_Fold_keep 2 (term_Fold_L2 nf )) (term_Fold_m2 r4 l'3 number out t74 t76)) l'3 number out t74 t76 := by kernel_rfl
theorem term_Fold_e2 (nf : Nat)  (r4 : List Bool × Unit) : ∀ (fu : Nat) (l'3 : List (Int × Int × Int × Int × Unit)) (number : List Int) (out : List (Int × Int × Int × Int × Unit)) (t74 : List Bool) (t76 : Int), iter fu (LC.F tab (term_Fold_phi nf) (fun _ F => iter nf F) term_Fold_keep 2 (term_Fold_L2 nf )) (term_Fold_m2 r4 l'3 number out t74 t76) = term_Fold_l2 nf r4  fu l'3 number out t74 t76 := by
  intro fu
  induction fu with
  | zero => intros; rfl
  | succ fu ih =>
    intro l'3 number out t74 t76
    rw [term_Fold_h2 nf  r4 fu l'3 number out t74 t76]
    simp only [ih]
    rfl
theorem term_Fold_h0 (nf : Nat)  (r2 : List (Int × Int × Int × Int × Unit) × Unit) (fu : Nat) (l'2 : List (Int × Int × Int × Int × Unit)) (t24 : Int) : iter (fu + 1) (LC.F tab (term_Fold_phi nf) (fun _ F => iter nf F) term_Fold_keep 0 (term_Fold_L0 nf )) (term_Fold_m0 r2 l'2 t24) = term_Fold_b0 nf (fun p0 v0 v1 v2 v3 v4 => iter nf (LC.F tab (term_Fold_phi nf) (fun _ F => iter nf F) term_Fold_keep 2 (term_Fold_L2 nf )) (term_Fold_m2 p0 v0 v1 v2 v3 v4)) r2  (fun l'2 t24 => iter fu (LC.F tab (term_Fold_phi nf) (fun _ F => iter nf F) term_Fold_keep 0 (term_Fold_L0 nf )) (term_Fold_m0 r2 l'2 t24)) l'2 t24 := by kernel_rfl
theorem term_Fold_e0 (nf : Nat)  (r2 : List (Int × Int × Int × Int × Unit) × Unit) : ∀ (fu : Nat) (l'2 : List (Int × Int × Int × Int × Unit)) (t24 : Int), iter fu (LC.F tab (term_Fold_phi nf) (fun _ F => iter nf F) term_Fold_keep 0 (term_Fold_L0 nf )) (term_Fold_m0 r2 l'2 t24) = term_Fold_l0 nf r2  fu l'2 t24 := by
  intro fu
  induction fu with
  | zero => intros; rfl
  | succ fu ih =>
    intro l'2 t24
    rw [term_Fold_h0 nf  r2 fu l'2 t24]
    simp only [ih, term_Fold_e2]
    rfl
theorem term_Fold_eq (nf : Nat) (vars : Int) (l' : List (Int × Int × Int × Int × Unit)) : runF tab (term_Fold_phi nf) term_Fold_keep nf [PT.val (Ty.int IntKind.i64) (Md.bor true false), PT.val ((Ty.int IntKind.i64).pair ((Ty.int IntKind.i64).pair ((Ty.int IntKind.i64).pair ((Ty.int IntKind.i64).pair Ty.unit)))).sl (Md.bor true false)] [(((Ty.int IntKind.i64).pair ((Ty.int IntKind.i64).pair ((Ty.int IntKind.i64).pair ((Ty.int IntKind.i64).pair Ty.unit)))).sl, Md.own false (Md.bor false false)), (Ty.int IntKind.i64, Md.bor false true)] (resL ([]) Try.f27) (codeOf Try.f27) ⟨vars, l', ()⟩ = term_Fold_f nf vars l' := by
  have h : runF tab (term_Fold_phi nf) term_Fold_keep nf [PT.val (Ty.int IntKind.i64) (Md.bor true false), PT.val ((Ty.int IntKind.i64).pair ((Ty.int IntKind.i64).pair ((Ty.int IntKind.i64).pair ((Ty.int IntKind.i64).pair Ty.unit)))).sl (Md.bor true false)] [(((Ty.int IntKind.i64).pair ((Ty.int IntKind.i64).pair ((Ty.int IntKind.i64).pair ((Ty.int IntKind.i64).pair Ty.unit)))).sl, Md.own false (Md.bor false false)), (Ty.int IntKind.i64, Md.bor false true)] (resL ([]) Try.f27) (codeOf Try.f27) ⟨vars, l', ()⟩ = term_Fold_p nf (fun p0 v0 v1 => iter nf (LC.F tab (term_Fold_phi nf) (fun _ F => iter nf F) term_Fold_keep 0 (term_Fold_L0 nf)) (term_Fold_m0 p0 v0 v1)) vars l' := by kernel_rfl
  rw [h]
  simp only [term_Fold_e0]
  rfl
def term_Fold_F (nf : Nat) (x : denPs [.val (.int .i64) (.bor true false), .val (.sl (.pair (.int .i64) (.pair (.int .i64) (.pair (.int .i64) (.pair (.int .i64) (.unit)))))) (.bor true false)]) : Option (denL [(.sl (.pair (.int .i64) (.pair (.int .i64) (.pair (.int .i64) (.pair (.int .i64) (.unit))))), .own false (.bor false false)), (.int .i64, .bor false true)]) := term_Fold_f nf x.1 x.2.1
def term_Fold_C (nf : Nat) : Contract := ⟨[.val (.int .i64) (.bor true false), .val (.sl (.pair (.int .i64) (.pair (.int .i64) (.pair (.int .i64) (.pair (.int .i64) (.unit)))))) (.bor true false)], [(.sl (.pair (.int .i64) (.pair (.int .i64) (.pair (.int .i64) (.pair (.int .i64) (.unit))))), .own false (.bor false false)), (.int .i64, .bor false true)], term_Fold_F nf, []⟩
theorem term_Fold_ok : FnOK Try.prog 27 := ⟨Try.f27, codeOf Try.f27, Try.func27, by kernel_rfl, by kernel_rfl⟩
theorem term_Fold_holds (nf : Nat) : Contract.Holds Try.prog 27 (term_Fold_C nf) :=
  fn_holds (Φ := term_Fold_phi nf) (keep := term_Fold_keep) (n := nf) ⟨tabs.1, tabs.2, (ctx_cons term_Check_ok (term_Check_holds nf) (ctx_cons term_used_ok (term_used_holds nf) (ctx_cons term_Do_ok (term_Do_holds nf) (ctx_cons slices_Clone_ok (slices_Clone_holds nf) ctx_nil)))), mixed, bk_ok bkls rfl⟩ (fn := Try.f27) ⟨Try.func27, by kernel_rfl, by kernel_rfl, by kernel_rfl⟩ (fun x => term_Fold_eq nf x.1 x.2.1)

/-! codemason codemasonlaw.TermFolds -/
def law_TermFolds_phi (nf : Nat) : Nat → Option Contract := lookC [(21, ref_TermsCheck_C nf), (23, ref_Comes_C nf), (26, ref_Term_C nf), (27, term_Fold_C nf), (28, ref_HaveCheck_C nf)]
def law_TermFolds_keep : Nat → List Nat := lookK [(0, [0, 1, 2, 7, 12, 15, 16, 57, 58, 59])]
def law_TermFolds_b0 (nf : Nat) (vars : Int) (l' : List (Int × Int × Int × Int × Unit)) (have' : List Int) (r : List (Int × Int × Int × Int × Unit) × Int × Unit) (g0 : List (Int × Int × Int × Int × Unit) → Int → Option (Bool × Unit)) (f : List (Int × Int × Int × Int × Unit)) (t59 : Int) : Option (Bool × Unit) :=
  bif decide (t59 < (↑(List.length r.fst) : Int)) then
    bif inb t59 f.length then
      bif decide ((f.getD t59.toNat (0, 0, 0, 0, ())).fst ≥ 3) then
        bif inb (f.getD t59.toNat (0, 0, 0, 0, ())).snd.fst f.length then
          bif (f.getD (Int.toNat (f.getD t59.toNat (0, 0, 0, 0, ())).snd.fst) (0, 0, 0, 0, ())).fst == 1 then
            bif inb (f.getD t59.toNat (0, 0, 0, 0, ())).snd.snd.fst f.length then
              bif (f.getD (Int.toNat (f.getD t59.toNat (0, 0, 0, 0, ())).snd.snd.fst) (0, 0, 0, 0, ())).fst == 1 then
                some ((false, ()))
              else
                g0 f (IntKind.i64.wrap (t59 + 1))
            else
              none
          else
            g0 f (IntKind.i64.wrap (t59 + 1))
        else
          none
      else
        g0 f (IntKind.i64.wrap (t59 + 1))
    else
      none
  else
    Option.bind (ref_HaveCheck_f nf vars have') fun r5 =>
    bif r5.fst != 0 then
      some ((true, ()))
    else
      Option.bind (ref_Term_f nf f have') fun r6 =>
      Option.bind (ref_Term_f nf l' have') fun r7 =>
      some ((r6.fst == r7.fst, ()))
def law_TermFolds_p (nf : Nat) (l0 : Int → List (Int × Int × Int × Int × Unit) → List Int → List (Int × Int × Int × Int × Unit) × Int × Unit → List (Int × Int × Int × Int × Unit) → Int → Option (Bool × Unit)) (vars : Int) (l' : List (Int × Int × Int × Int × Unit)) (have' : List Int) : Option (Bool × Unit) :=
  Option.bind (term_Fold_f nf vars l') fun r =>
  Option.bind (ref_TermsCheck_f nf vars l') fun r2 =>
  bif r2.fst != 0 then
    bif r.snd.fst == r2.fst then
      some (((↑(List.length r.fst) : Int) == 0, ()))
    else
      some ((false, ()))
  else
    bif r.snd.fst != 0 then
      some ((false, ()))
    else
      Option.bind (ref_TermsCheck_f nf vars r.fst) fun r3 =>
      bif r3.fst != 0 then
        some ((false, ()))
      else
        bif decide ((↑(List.length r.fst) : Int) > (↑l'.length : Int)) then
          some ((false, ()))
        else
          Option.bind (ref_Comes_f nf r.fst (IntKind.i64.wrap ((↑(List.length r.fst) : Int) - 1))) fun r4 =>
          bif (↑(List.length r4.fst) : Int) != (↑(List.length r.fst) : Int) then
            some ((false, ()))
          else
            l0 vars l' have' r r.fst 0
def law_TermFolds_l0 (nf : Nat) (vars : Int) (l' : List (Int × Int × Int × Int × Unit)) (have' : List Int) (r : List (Int × Int × Int × Int × Unit) × Int × Unit) : Nat → List (Int × Int × Int × Int × Unit) → Int → Option (Bool × Unit)
  | 0, _, _ => none
  | fu + 1, f, t59 => law_TermFolds_b0 nf  vars l' have' r  (law_TermFolds_l0 nf vars l' have' r  fu) f t59
def law_TermFolds_f (nf : Nat) (vars : Int) (l' : List (Int × Int × Int × Int × Unit)) (have' : List Int) : Option (Bool × Unit) := law_TermFolds_p nf (fun p0 p1 p2 p3 v0 v1 => law_TermFolds_l0 nf p0 p1 p2 p3 nf v0 v1) vars l' have'
noncomputable def law_TermFolds_L0 (nf : Nat) : LC (Bool × Unit) := theL (findL tab (law_TermFolds_phi nf) (fun _ F => iter nf F) law_TermFolds_keep 0 0 (codeOf Try.f6) (fin tab [(Ty.bool, Md.bor false true)] (resL ([]) Try.f6)) (fun _ _ => none) (fin tab [(Ty.bool, Md.bor false true)] (resL ([]) Try.f6)))
def law_TermFolds_m0 (vars : Int) (l' : List (Int × Int × Int × Int × Unit)) (have' : List Int) (r : List (Int × Int × Int × Int × Unit) × Int × Unit) (f : List (Int × Int × Int × Int × Unit)) (t59 : Int) : St := ⟨fresh, [(0, AV.v (Ty.int IntKind.i64) (Md.bor false true) vars), (1, AV.v ((Ty.int IntKind.i64).pair ((Ty.int IntKind.i64).pair ((Ty.int IntKind.i64).pair ((Ty.int IntKind.i64).pair Ty.unit)))).sl (Md.bor false false) l'), (2, AV.v (Ty.int IntKind.i64).sl (Md.bor false false) have'), (7, AV.ow 500007 ((Ty.int IntKind.i64).pair ((Ty.int IntKind.i64).pair ((Ty.int IntKind.i64).pair ((Ty.int IntKind.i64).pair Ty.unit)))).sl (Md.own false (Md.bor false false)) f), (12, AV.dead), (15, AV.dead), (16, AV.dead), (57, AV.al 7 500007 []), (58, AV.v (Ty.int IntKind.i64) (Md.bor false true) (↑(List.length r.fst) : Int)), (59, AV.v (Ty.int IntKind.i64) (Md.bor false true) t59)]⟩
theorem law_TermFolds_h0 (nf : Nat)  (vars : Int) (l' : List (Int × Int × Int × Int × Unit)) (have' : List Int) (r : List (Int × Int × Int × Int × Unit) × Int × Unit) (fu : Nat) (f : List (Int × Int × Int × Int × Unit)) (t59 : Int) : iter (fu + 1) (LC.F tab (law_TermFolds_phi nf) (fun _ F => iter nf F) law_TermFolds_keep 0 (law_TermFolds_L0 nf )) (law_TermFolds_m0 vars l' have' r f t59) = law_TermFolds_b0 nf  vars l' have' r  (fun f t59 => iter fu (LC.F tab (law_TermFolds_phi nf) (fun _ F => iter nf F) law_TermFolds_keep 0 (law_TermFolds_L0 nf )) (law_TermFolds_m0 vars l' have' r f t59)) f t59 := by kernel_rfl
theorem law_TermFolds_e0 (nf : Nat)  (vars : Int) (l' : List (Int × Int × Int × Int × Unit)) (have' : List Int) (r : List (Int × Int × Int × Int × Unit) × Int × Unit) : ∀ (fu : Nat) (f : List (Int × Int × Int × Int × Unit)) (t59 : Int), iter fu (LC.F tab (law_TermFolds_phi nf) (fun _ F => iter nf F) law_TermFolds_keep 0 (law_TermFolds_L0 nf )) (law_TermFolds_m0 vars l' have' r f t59) = law_TermFolds_l0 nf vars l' have' r  fu f t59 := by
  intro fu
  induction fu with
  | zero => intros; rfl
  | succ fu ih =>
    intro f t59
    rw [law_TermFolds_h0 nf  vars l' have' r fu f t59]
    simp only [ih]
    rfl
theorem law_TermFolds_eq (nf : Nat) (vars : Int) (l' : List (Int × Int × Int × Int × Unit)) (have' : List Int) : runF tab (law_TermFolds_phi nf) law_TermFolds_keep nf [PT.val (Ty.int IntKind.i64) (Md.bor false false), PT.val ((Ty.int IntKind.i64).pair ((Ty.int IntKind.i64).pair ((Ty.int IntKind.i64).pair ((Ty.int IntKind.i64).pair Ty.unit)))).sl (Md.bor false false), PT.val (Ty.int IntKind.i64).sl (Md.bor false false)] [(Ty.bool, Md.bor false true)] (resL ([]) Try.f6) (codeOf Try.f6) ⟨vars, l', have', ()⟩ = law_TermFolds_f nf vars l' have' := by
  have h : runF tab (law_TermFolds_phi nf) law_TermFolds_keep nf [PT.val (Ty.int IntKind.i64) (Md.bor false false), PT.val ((Ty.int IntKind.i64).pair ((Ty.int IntKind.i64).pair ((Ty.int IntKind.i64).pair ((Ty.int IntKind.i64).pair Ty.unit)))).sl (Md.bor false false), PT.val (Ty.int IntKind.i64).sl (Md.bor false false)] [(Ty.bool, Md.bor false true)] (resL ([]) Try.f6) (codeOf Try.f6) ⟨vars, l', have', ()⟩ = law_TermFolds_p nf (fun p0 p1 p2 p3 v0 v1 => iter nf (LC.F tab (law_TermFolds_phi nf) (fun _ F => iter nf F) law_TermFolds_keep 0 (law_TermFolds_L0 nf)) (law_TermFolds_m0 p0 p1 p2 p3 v0 v1)) vars l' have' := by kernel_rfl
  rw [h]
  simp only [law_TermFolds_e0]
  rfl
def law_TermFolds_F (nf : Nat) (x : denPs [.val (.int .i64) (.bor false false), .val (.sl (.pair (.int .i64) (.pair (.int .i64) (.pair (.int .i64) (.pair (.int .i64) (.unit)))))) (.bor false false), .val (.sl (.int .i64)) (.bor false false)]) : Option (denL [(.bool, .bor false true)]) := law_TermFolds_f nf x.1 x.2.1 x.2.2.1
def law_TermFolds_C (nf : Nat) : Contract := ⟨[.val (.int .i64) (.bor false false), .val (.sl (.pair (.int .i64) (.pair (.int .i64) (.pair (.int .i64) (.pair (.int .i64) (.unit)))))) (.bor false false), .val (.sl (.int .i64)) (.bor false false)], [(.bool, .bor false true)], law_TermFolds_F nf, []⟩
theorem law_TermFolds_ok : FnOK Try.prog 6 := ⟨Try.f6, codeOf Try.f6, Try.func6, by kernel_rfl, by kernel_rfl⟩
theorem law_TermFolds_holds (nf : Nat) : Contract.Holds Try.prog 6 (law_TermFolds_C nf) :=
  fn_holds (Φ := law_TermFolds_phi nf) (keep := law_TermFolds_keep) (n := nf) ⟨tabs.1, tabs.2, (ctx_cons ref_TermsCheck_ok (ref_TermsCheck_holds nf) (ctx_cons ref_Comes_ok (ref_Comes_holds nf) (ctx_cons ref_Term_ok (ref_Term_holds nf) (ctx_cons term_Fold_ok (term_Fold_holds nf) (ctx_cons ref_HaveCheck_ok (ref_HaveCheck_holds nf) ctx_nil))))), mixed, bk_ok bkls rfl⟩ (fn := Try.f6) ⟨Try.func6, by kernel_rfl, by kernel_rfl, by kernel_rfl⟩ (fun x => law_TermFolds_eq nf x.1 x.2.1 x.2.2.1)
end
end Go.Proofs.Ytpnganfbonlphaa.S
