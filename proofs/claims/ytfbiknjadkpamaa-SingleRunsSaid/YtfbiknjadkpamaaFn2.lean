/- The functions of the code, as plain functions, and the theorems that say so: made by a program of this proof's own. -/
import Derived.Test.YtfbiknjadkpamaaFn1
import Derived.Test.YtfbiknjadkpamaaChecked
namespace Go.Proofs.Ytfbiknjadkpamaa.S
open Go Go.Ab

/-! slices.Index   int int  -/
def slices_Index_phi (nf : Nat) : Nat → Option Contract := lookC []
def slices_Index_keep : Nat → List Nat := lookK [(0, [0, 1, 7, 8])]
def slices_Index_b0 (nf : Nat) (s : List Int) (v : Int) (g0 : Int → Option (Int × Unit)) (t8 : Int) : Option (Int × Unit) :=
  bif decide (t8 < (↑s.length : Int)) then
    bif inb t8 s.length then
      bif v == s.getD t8.toNat 0 then
        some ((t8, ()))
      else
        g0 (IntKind.i64.wrap (t8 + 1))
    else
      none
  else
    some ((-1, ()))
def slices_Index_p (nf : Nat) (l0 : List Int → Int → Int → Option (Int × Unit)) (s : List Int) (v : Int) : Option (Int × Unit) :=
  l0 s v 0
def slices_Index_l0 (nf : Nat) (s : List Int) (v : Int) : Nat → Int → Option (Int × Unit)
  | 0, _ => none
  | fu + 1, t8 => slices_Index_b0 nf  s v  (slices_Index_l0 nf s v  fu) t8
def slices_Index_f (nf : Nat) (s : List Int) (v : Int) : Option (Int × Unit) := slices_Index_p nf (fun p0 p1 v0 => slices_Index_l0 nf p0 p1 nf v0) s v
noncomputable def slices_Index_L0 (nf : Nat) : LC (Int × Unit) := theL (findL tab (slices_Index_phi nf) (fun _ F => iter nf F) slices_Index_keep 0 0 (codeOf Try.f26) (fin tab [(Ty.int IntKind.i64, Md.bor false true)] (resL (none) Try.f26)) (fun _ _ => none) (fin tab [(Ty.int IntKind.i64, Md.bor false true)] (resL (none) Try.f26)))
def slices_Index_m0 (s : List Int) (v : Int) (t8 : Int) : St := ⟨fresh, [(0, AV.v (Ty.int IntKind.i64).sl (Md.bor true false) s), (1, AV.v (Ty.int IntKind.i64) (Md.bor false true) v), (7, AV.v (Ty.int IntKind.i64) (Md.bor false true) (↑s.length : Int)), (8, AV.v (Ty.int IntKind.i64) (Md.bor false true) t8)]⟩
theorem slices_Index_h0 (nf : Nat)  (s : List Int) (v : Int) (fu : Nat) (t8 : Int) : iter (fu + 1) (LC.F tab (slices_Index_phi nf) (fun _ F => iter nf F) slices_Index_keep 0 (slices_Index_L0 nf )) (slices_Index_m0 s v t8) = slices_Index_b0 nf  s v  (fun t8 => iter fu (LC.F tab (slices_Index_phi nf) (fun _ F => iter nf F) slices_Index_keep 0 (slices_Index_L0 nf )) (slices_Index_m0 s v t8)) t8 := by kernel_rfl
theorem slices_Index_e0 (nf : Nat)  (s : List Int) (v : Int) : ∀ (fu : Nat) (t8 : Int), iter fu (LC.F tab (slices_Index_phi nf) (fun _ F => iter nf F) slices_Index_keep 0 (slices_Index_L0 nf )) (slices_Index_m0 s v t8) = slices_Index_l0 nf s v  fu t8 := by
  intro fu
  induction fu with
  | zero => intros; rfl
  | succ fu ih =>
    intro t8
    rw [slices_Index_h0 nf  s v fu t8]
    simp only [ih]
    rfl
theorem slices_Index_eq (nf : Nat) (s : List Int) (v : Int) : runF tab (slices_Index_phi nf) slices_Index_keep nf [PT.val (Ty.int IntKind.i64).sl (Md.bor true false), PT.val (Ty.int IntKind.i64) (Md.bor true false)] [(Ty.int IntKind.i64, Md.bor false true)] (resL (none) Try.f26) (codeOf Try.f26) ⟨s, v, ()⟩ = slices_Index_f nf s v := by
  have h : runF tab (slices_Index_phi nf) slices_Index_keep nf [PT.val (Ty.int IntKind.i64).sl (Md.bor true false), PT.val (Ty.int IntKind.i64) (Md.bor true false)] [(Ty.int IntKind.i64, Md.bor false true)] (resL (none) Try.f26) (codeOf Try.f26) ⟨s, v, ()⟩ = slices_Index_p nf (fun p0 p1 v0 => iter nf (LC.F tab (slices_Index_phi nf) (fun _ F => iter nf F) slices_Index_keep 0 (slices_Index_L0 nf)) (slices_Index_m0 p0 p1 v0)) s v := by kernel_rfl
  rw [h]
  simp only [slices_Index_e0]
  rfl
def slices_Index_F (nf : Nat) (x : denPs [.val (.sl (.int .i64)) (.bor true false), .val (.int .i64) (.bor true false)]) : Option (denL [(.int .i64, .bor false true)]) := slices_Index_f nf x.1 x.2.1
def slices_Index_C (nf : Nat) : Contract := ⟨[.val (.sl (.int .i64)) (.bor true false), .val (.int .i64) (.bor true false)], [(.int .i64, .bor false true)], slices_Index_F nf, none⟩
theorem slices_Index_ok : FnOK Try.prog 26 := ⟨Try.f26, codeOf Try.f26, Try.func26, by kernel_rfl, by kernel_rfl⟩
theorem slices_Index_holds (nf : Nat) : Contract.Holds Try.prog 26 (slices_Index_C nf) :=
  fn_holds (Φ := slices_Index_phi nf) (keep := slices_Index_keep) (n := nf) ⟨tabs.1, tabs.2, ctx_nil, mixed⟩ (fn := Try.f26) ⟨Try.func26, by kernel_rfl, by kernel_rfl, by kernel_rfl⟩ (fun x => slices_Index_eq nf x.1 x.2.1)

/-! slices.Clone   int int  -/
def slices_Clone_phi (nf : Nat) : Nat → Option Contract := lookC []
def slices_Clone_keep : Nat → List Nat := lookK []
def slices_Clone_p (nf : Nat)  (s : List Int) : Option (List Int × Unit) :=
  bif !s.isEmpty then
    bif bimp false !s.isEmpty && ((List.length ([] : List Unit)) + s.length).ble lim then
      some (([] ++ s, ()))
    else
      none
  else
    none
def slices_Clone_f (nf : Nat) (s : List Int) : Option (List Int × Unit) := slices_Clone_p nf  s
theorem slices_Clone_eq (nf : Nat) (s : List Int) : runF tab (slices_Clone_phi nf) slices_Clone_keep nf [PT.val (Ty.int IntKind.i64).sl (Md.bor true false)] [((Ty.int IntKind.i64).sl, Md.own false (Md.bor false false))] (resL (none) Try.f27) (codeOf Try.f27) ⟨s, ()⟩ = slices_Clone_f nf s := by
  have h : runF tab (slices_Clone_phi nf) slices_Clone_keep nf [PT.val (Ty.int IntKind.i64).sl (Md.bor true false)] [((Ty.int IntKind.i64).sl, Md.own false (Md.bor false false))] (resL (none) Try.f27) (codeOf Try.f27) ⟨s, ()⟩ = slices_Clone_p nf  s := by kernel_rfl
  exact h
def slices_Clone_F (nf : Nat) (x : denPs [.val (.sl (.int .i64)) (.bor true false)]) : Option (denL [(.sl (.int .i64), .own false (.bor false false))]) := slices_Clone_f nf x.1
def slices_Clone_C (nf : Nat) : Contract := ⟨[.val (.sl (.int .i64)) (.bor true false)], [(.sl (.int .i64), .own false (.bor false false))], slices_Clone_F nf, none⟩
theorem slices_Clone_ok : FnOK Try.prog 27 := ⟨Try.f27, codeOf Try.f27, Try.func27, by kernel_rfl, by kernel_rfl⟩
theorem slices_Clone_holds (nf : Nat) : Contract.Holds Try.prog 27 (slices_Clone_C nf) :=
  fn_holds (Φ := slices_Clone_phi nf) (keep := slices_Clone_keep) (n := nf) ⟨tabs.1, tabs.2, ctx_nil, mixed⟩ (fn := Try.f27) ⟨Try.func27, by kernel_rfl, by kernel_rfl, by kernel_rfl⟩ (fun x => slices_Clone_eq nf x.1)

/-! codemason block.Do -/
def block_Do_phi (nf : Nat) : Nat → Option Contract := lookC [(44, term_Do_C nf)]
def block_Do_keep : Nat → List Nat := lookK [(0, [0, 1, 6, 7, 8])]
def block_Do_b0 (nf : Nat) (code' : List (Int × Int × Int × Int × Int × Unit)) (g0 : List Int → Int → Option (List Int × Unit)) (vars2 : List Int) (t8 : Int) : Option (List Int × Unit) :=
  bif decide (t8 < (↑code'.length : Int)) then
    bif inb t8 code'.length then
      bif (code'.getD t8.toNat (0, 0, 0, 0, 0, ())).fst == 1 then
        bif inb (code'.getD t8.toNat (0, 0, 0, 0, 0, ())).snd.fst vars2.length then
          g0 (vars2.set (Int.toNat (code'.getD t8.toNat (0, 0, 0, 0, 0, ())).snd.fst) (code'.getD t8.toNat (0, 0, 0, 0, 0, ())).snd.snd.snd.snd.fst) (IntKind.i64.wrap (t8 + 1))
        else
          none
      else
        bif (code'.getD t8.toNat (0, 0, 0, 0, 0, ())).fst == 2 then
          bif inb (code'.getD t8.toNat (0, 0, 0, 0, 0, ())).snd.snd.snd.snd.fst vars2.length then
            bif inb (code'.getD t8.toNat (0, 0, 0, 0, 0, ())).snd.fst vars2.length then
              g0 (vars2.set (Int.toNat (code'.getD t8.toNat (0, 0, 0, 0, 0, ())).snd.fst) (vars2.getD (Int.toNat (code'.getD t8.toNat (0, 0, 0, 0, 0, ())).snd.snd.snd.snd.fst) 0)) (IntKind.i64.wrap (t8 + 1))
            else
              none
          else
            none
        else
          bif inb (code'.getD t8.toNat (0, 0, 0, 0, 0, ())).snd.snd.fst vars2.length then
            bif inb (code'.getD t8.toNat (0, 0, 0, 0, 0, ())).snd.snd.snd.fst vars2.length then
              Option.bind (term_Do_f nf ((code'.getD t8.toNat (0, 0, 0, 0, 0, ())).fst) (vars2.getD (Int.toNat (code'.getD t8.toNat (0, 0, 0, 0, 0, ())).snd.snd.fst) 0) (vars2.getD (Int.toNat (code'.getD t8.toNat (0, 0, 0, 0, 0, ())).snd.snd.snd.fst) 0)) fun r =>
              bif inb (code'.getD t8.toNat (0, 0, 0, 0, 0, ())).snd.fst vars2.length then
                g0 (vars2.set (Int.toNat (code'.getD t8.toNat (0, 0, 0, 0, 0, ())).snd.fst) r.fst) (IntKind.i64.wrap (t8 + 1))
              else
                none
            else
              none
          else
            none
    else
      none
  else
    some ((vars2, ()))
def block_Do_p (nf : Nat) (l0 : List (Int × Int × Int × Int × Int × Unit) → List Int → Int → Option (List Int × Unit)) (code' : List (Int × Int × Int × Int × Int × Unit)) (vars : List Int) : Option (List Int × Unit) :=
  l0 code' vars 0
def block_Do_l0 (nf : Nat) (code' : List (Int × Int × Int × Int × Int × Unit)) : Nat → List Int → Int → Option (List Int × Unit)
  | 0, _, _ => none
  | fu + 1, vars2, t8 => block_Do_b0 nf  code'  (block_Do_l0 nf code'  fu) vars2 t8
def block_Do_f (nf : Nat) (code' : List (Int × Int × Int × Int × Int × Unit)) (vars : List Int) : Option (List Int × Unit) := block_Do_p nf (fun p0 v0 v1 => block_Do_l0 nf p0 nf v0 v1) code' vars
noncomputable def block_Do_L0 (nf : Nat) : LC (List Int × Unit) := theL (findL tab (block_Do_phi nf) (fun _ F => iter nf F) block_Do_keep 0 0 (codeOf Try.f28) (fin tab [((Ty.int IntKind.i64).sl, Md.own false (Md.bor false false))] (resL (some 1) Try.f28)) (fun _ _ => none) (fin tab [((Ty.int IntKind.i64).sl, Md.own false (Md.bor false false))] (resL (some 1) Try.f28)))
def block_Do_m0 (code' : List (Int × Int × Int × Int × Int × Unit)) (vars2 : List Int) (t8 : Int) : St := ⟨fresh, [(0, AV.v ((Ty.int IntKind.i64).pair ((Ty.int IntKind.i64).pair ((Ty.int IntKind.i64).pair ((Ty.int IntKind.i64).pair ((Ty.int IntKind.i64).pair Ty.unit))))).sl (Md.bor true false) code'), (1, AV.ow 500001 (Ty.int IntKind.i64).sl (Md.own false (Md.bor false false)) vars2), (6, AV.v ((Ty.int IntKind.i64).pair ((Ty.int IntKind.i64).pair ((Ty.int IntKind.i64).pair ((Ty.int IntKind.i64).pair ((Ty.int IntKind.i64).pair Ty.unit))))).sl (Md.bor true false) code'), (7, AV.v (Ty.int IntKind.i64) (Md.bor false true) (↑code'.length : Int)), (8, AV.v (Ty.int IntKind.i64) (Md.bor false true) t8)]⟩
theorem block_Do_h0 (nf : Nat)  (code' : List (Int × Int × Int × Int × Int × Unit)) (fu : Nat) (vars2 : List Int) (t8 : Int) : iter (fu + 1) (LC.F tab (block_Do_phi nf) (fun _ F => iter nf F) block_Do_keep 0 (block_Do_L0 nf )) (block_Do_m0 code' vars2 t8) = block_Do_b0 nf  code'  (fun vars2 t8 => iter fu (LC.F tab (block_Do_phi nf) (fun _ F => iter nf F) block_Do_keep 0 (block_Do_L0 nf )) (block_Do_m0 code' vars2 t8)) vars2 t8 := by kernel_rfl
theorem block_Do_e0 (nf : Nat)  (code' : List (Int × Int × Int × Int × Int × Unit)) : ∀ (fu : Nat) (vars2 : List Int) (t8 : Int), iter fu (LC.F tab (block_Do_phi nf) (fun _ F => iter nf F) block_Do_keep 0 (block_Do_L0 nf )) (block_Do_m0 code' vars2 t8) = block_Do_l0 nf code'  fu vars2 t8 := by
  intro fu
  induction fu with
  | zero => intros; rfl
  | succ fu ih =>
    intro vars2 t8
    rw [block_Do_h0 nf  code' fu vars2 t8]
    simp only [ih]
    rfl
theorem block_Do_eq (nf : Nat) (code' : List (Int × Int × Int × Int × Int × Unit)) (vars : List Int) : runF tab (block_Do_phi nf) block_Do_keep nf [PT.val ((Ty.int IntKind.i64).pair ((Ty.int IntKind.i64).pair ((Ty.int IntKind.i64).pair ((Ty.int IntKind.i64).pair ((Ty.int IntKind.i64).pair Ty.unit))))).sl (Md.bor true false), PT.val (Ty.int IntKind.i64).sl (Md.own false (Md.bor false false))] [((Ty.int IntKind.i64).sl, Md.own false (Md.bor false false))] (resL (some 1) Try.f28) (codeOf Try.f28) ⟨code', vars, ()⟩ = block_Do_f nf code' vars := by
  have h : runF tab (block_Do_phi nf) block_Do_keep nf [PT.val ((Ty.int IntKind.i64).pair ((Ty.int IntKind.i64).pair ((Ty.int IntKind.i64).pair ((Ty.int IntKind.i64).pair ((Ty.int IntKind.i64).pair Ty.unit))))).sl (Md.bor true false), PT.val (Ty.int IntKind.i64).sl (Md.own false (Md.bor false false))] [((Ty.int IntKind.i64).sl, Md.own false (Md.bor false false))] (resL (some 1) Try.f28) (codeOf Try.f28) ⟨code', vars, ()⟩ = block_Do_p nf (fun p0 v0 v1 => iter nf (LC.F tab (block_Do_phi nf) (fun _ F => iter nf F) block_Do_keep 0 (block_Do_L0 nf)) (block_Do_m0 p0 v0 v1)) code' vars := by kernel_rfl
  rw [h]
  simp only [block_Do_e0]
  rfl
def block_Do_F (nf : Nat) (x : denPs [.val (.sl (.pair (.int .i64) (.pair (.int .i64) (.pair (.int .i64) (.pair (.int .i64) (.pair (.int .i64) (.unit))))))) (.bor true false), .val (.sl (.int .i64)) (.own false (.bor false false))]) : Option (denL [(.sl (.int .i64), .own false (.bor false false))]) := block_Do_f nf x.1 x.2.1
def block_Do_C (nf : Nat) : Contract := ⟨[.val (.sl (.pair (.int .i64) (.pair (.int .i64) (.pair (.int .i64) (.pair (.int .i64) (.pair (.int .i64) (.unit))))))) (.bor true false), .val (.sl (.int .i64)) (.own false (.bor false false))], [(.sl (.int .i64), .own false (.bor false false))], block_Do_F nf, (some 1)⟩
theorem block_Do_ok : FnOK Try.prog 28 := ⟨Try.f28, codeOf Try.f28, Try.func28, by kernel_rfl, by kernel_rfl⟩
theorem block_Do_holds (nf : Nat) : Contract.Holds Try.prog 28 (block_Do_C nf) :=
  fn_holds (Φ := block_Do_phi nf) (keep := block_Do_keep) (n := nf) ⟨tabs.1, tabs.2, (ctx_cons term_Do_ok (term_Do_holds nf) ctx_nil), mixed⟩ (fn := Try.f28) ⟨Try.func28, by kernel_rfl, by kernel_rfl, by kernel_rfl⟩ (fun x => block_Do_eq nf x.1 x.2.1)

/-! codemason single.Run -/
def single_Run_phi (nf : Nat) : Nat → Option Contract := lookC [(6, single_Check_C nf), (16, single_From_C nf), (17, block_Next_C nf), (18, single_bare_C nf), (25, term_Have_C nf), (26, slices_Index_C nf), (27, slices_Clone_C nf), (28, block_Do_C nf)]
def single_Run_keep : Nat → List Nat := lookK [(4, [11, 14, 19, 38, 98, 99, 100, 101, 111]), (2, [1, 10, 11, 12, 14, 15, 16, 37, 38, 42, 55, 56, 57, 58, 59, 111]), (0, [1, 10, 11, 12, 13, 37, 38, 42, 111])]
def single_Run_b0 (nf : Nat) (l2 : List (List (Int × List Int × Unit) × List (Int × Int × Int × Int × Int × Unit) × Int × Int × Int × List Int × Unit) → Int → Int × Unit → Int → List (List Int) → List Int → List (Int × List Int × Unit) × List (Int × Int × Int × Int × Int × Unit) × Int × Int × Int × List Int × Unit → List Int → Int → Option (List Int × Int × Unit)) (l' : List (List (Int × List Int × Unit) × List (Int × Int × Int × Int × Int × Unit) × Int × Int × Int × List Int × Unit)) (g0 : List (List Int) → List Int → Int → Int → Int → Option (List Int × Int × Unit)) (from' : List (List Int)) (v : List Int) (at' : Int) (last : Int) (t42 : Int) : Option (List Int × Int × Unit) :=
  bif decide (t42 < 200) then
    bif inb at' l'.length then
      bif inb at' from'.length then
        Option.bind (slices_Index_f nf (from'.getD at'.toNat []) last) fun r6 =>
        Option.bind (slices_Clone_f nf v) fun r7 =>
        l2 l' at' r6 t42 from' v (l'.getD at'.toNat ([], [], 0, 0, 0, [], ())) r7.fst 0
      else
        none
    else
      none
  else
    some (([], 7, ()))
def single_Run_b2 (nf : Nat) (l4 : List (Int × List Int × Unit) × List (Int × Int × Int × Int × Int × Unit) × Int × Int × Int × List Int × Unit → List (List (Int × List Int × Unit) × List (Int × Int × Int × Int × Int × Unit) × Int × Int × Int × List Int × Unit) → List Int → List (Int × List Int × Unit) × List (Int × Int × Int × Int × Int × Unit) × Int × Int × Int × List Int × Unit → List Int → Int → Option (List Int × Int × Unit)) (l' : List (List (Int × List Int × Unit) × List (Int × Int × Int × Int × Int × Unit) × Int × Int × Int × List Int × Unit)) (at' : Int) (r6 : Int × Unit) (t42 : Int) (g0 : List (List Int) → List Int → Int → Int → Int → Option (List Int × Int × Unit)) (g2 : List (List Int) → List Int → List (Int × List Int × Unit) × List (Int × Int × Int × Int × Int × Unit) × Int × Int × Int × List Int × Unit → List Int → Int → Option (List Int × Int × Unit)) (from'2 : List (List Int)) (v2 : List Int) (b : List (Int × List Int × Unit) × List (Int × Int × Int × Int × Int × Unit) × Int × Int × Int × List Int × Unit) (was : List Int) (t59 : Int) : Option (List Int × Int × Unit) :=
  bif decide (t59 < (↑(List.length (l'.getD at'.toNat ([], [], 0, 0, 0, [], ())).fst) : Int)) then
    bif inb t59 (List.length (l'.getD at'.toNat ([], [], 0, 0, 0, [], ())).fst) then
      bif inb r6.fst (List.length (List.getD (l'.getD at'.toNat ([], [], 0, 0, 0, [], ())).fst t59.toNat (0, [], ())).snd.fst) then
        bif inb (List.getD (List.getD (l'.getD at'.toNat ([], [], 0, 0, 0, [], ())).fst t59.toNat (0, [], ())).snd.fst (Int.toNat r6.fst) 0) was.length then
          bif inb (List.getD (l'.getD at'.toNat ([], [], 0, 0, 0, [], ())).fst t59.toNat (0, [], ())).fst v2.length then
            g2 from'2 (v2.set (Int.toNat (List.getD (l'.getD at'.toNat ([], [], 0, 0, 0, [], ())).fst t59.toNat (0, [], ())).fst) (was.getD (Int.toNat (List.getD (List.getD (l'.getD at'.toNat ([], [], 0, 0, 0, [], ())).fst t59.toNat (0, [], ())).snd.fst (Int.toNat r6.fst) 0)) 0)) b was (IntKind.i64.wrap (t59 + 1))
          else
            none
        else
          none
      else
        none
    else
      none
  else
    Option.bind (block_Do_f nf b.snd.fst v2) fun r8 =>
    bif decide (b.snd.snd.fst ≥ 0) then
      bif inb b.snd.snd.fst (List.length r8.fst) then
        bif List.getD r8.fst (Int.toNat b.snd.snd.fst) 0 == 0 then
          bif decide (b.snd.snd.snd.snd.fst < 0) then
            l4 b l' r8.fst b [] 0
          else
            g0 from'2 r8.fst b.snd.snd.snd.snd.fst at' (IntKind.i64.wrap (t42 + 1))
        else
          bif decide (b.snd.snd.snd.fst < 0) then
            l4 b l' r8.fst b [] 0
          else
            g0 from'2 r8.fst b.snd.snd.snd.fst at' (IntKind.i64.wrap (t42 + 1))
      else
        none
    else
      bif decide (b.snd.snd.snd.fst < 0) then
        l4 b l' r8.fst b [] 0
      else
        g0 from'2 r8.fst b.snd.snd.snd.fst at' (IntKind.i64.wrap (t42 + 1))
def single_Run_b4 (nf : Nat) (b : List (Int × List Int × Unit) × List (Int × Int × Int × Int × Int × Unit) × Int × Int × Int × List Int × Unit) (l' : List (List (Int × List Int × Unit) × List (Int × Int × Int × Int × Int × Unit) × Int × Int × Int × List Int × Unit)) (g0 : List (List Int) → List Int → Int → Int → Int → Option (List Int × Int × Unit)) (g4 : List Int → List (Int × List Int × Unit) × List (Int × Int × Int × Int × Int × Unit) × Int × Int × Int × List Int × Unit → List Int → Int → Option (List Int × Int × Unit)) (v3 : List Int) (b2 : List (Int × List Int × Unit) × List (Int × Int × Int × Int × Int × Unit) × Int × Int × Int × List Int × Unit) (out : List Int) (t101 : Int) : Option (List Int × Int × Unit) :=
  bif decide (t101 < (↑(List.length b.snd.snd.snd.snd.snd.fst) : Int)) then
    bif inb t101 (List.length b.snd.snd.snd.snd.snd.fst) then
      bif inb (List.getD b.snd.snd.snd.snd.snd.fst t101.toNat 0) v3.length then
        bif bimp false ![v3.getD (Int.toNat (List.getD b.snd.snd.snd.snd.snd.fst t101.toNat 0)) 0].isEmpty && (out.length + [v3.getD (Int.toNat (List.getD b.snd.snd.snd.snd.snd.fst t101.toNat 0)) 0].length).ble lim then
          g4 v3 b2 (out ++ [v3.getD (Int.toNat (List.getD b.snd.snd.snd.snd.snd.fst t101.toNat 0)) 0]) (IntKind.i64.wrap (t101 + 1))
        else
          none
      else
        none
    else
      none
  else
    some ((out, 0, ()))
def single_Run_p (nf : Nat) (l0 : List (List (Int × List Int × Unit) × List (Int × Int × Int × Int × Int × Unit) × Int × Int × Int × List Int × Unit) → List (List Int) → List Int → Int → Int → Int → Option (List Int × Int × Unit)) (vars : Int) (l' : List (List (Int × List Int × Unit) × List (Int × Int × Int × Int × Int × Unit) × Int × Int × Int × List Int × Unit)) (have' : List Int) : Option (List Int × Int × Unit) :=
  Option.bind (single_Check_f nf vars l') fun r =>
  bif r.fst != 0 then
    some (([], r.fst, ()))
  else
    Option.bind (term_Have_f nf vars have') fun r2 =>
    bif r2.fst != 0 then
      some (([], r2.fst, ()))
    else
      Option.bind (single_bare_f nf l') fun r3 =>
      Option.bind (block_Next_f nf r3.fst) fun r4 =>
      Option.bind (single_From_f nf r4.fst) fun r5 =>
      l0 l' r5.fst (List.take 0 (List.replicate 128 0) ++ (List.take ((none.getD (List.replicate 128 0).length).min have'.length) have' ++ List.drop (0 + (none.getD (List.replicate 128 0).length).min have'.length) (List.replicate 128 0))) 0 (-1) 0
def single_Run_l4 (nf : Nat) (b : List (Int × List Int × Unit) × List (Int × Int × Int × Int × Int × Unit) × Int × Int × Int × List Int × Unit) (l' : List (List (Int × List Int × Unit) × List (Int × Int × Int × Int × Int × Unit) × Int × Int × Int × List Int × Unit)) (g0 : List (List Int) → List Int → Int → Int → Int → Option (List Int × Int × Unit)) : Nat → List Int → List (Int × List Int × Unit) × List (Int × Int × Int × Int × Int × Unit) × Int × Int × Int × List Int × Unit → List Int → Int → Option (List Int × Int × Unit)
  | 0, _, _, _, _ => none
  | fu + 1, v3, b2, out, t101 => single_Run_b4 nf  b l' g0 (single_Run_l4 nf b l' g0 fu) v3 b2 out t101
def single_Run_l2 (nf : Nat) (l' : List (List (Int × List Int × Unit) × List (Int × Int × Int × Int × Int × Unit) × Int × Int × Int × List Int × Unit)) (at' : Int) (r6 : Int × Unit) (t42 : Int) (g0 : List (List Int) → List Int → Int → Int → Int → Option (List Int × Int × Unit)) : Nat → List (List Int) → List Int → List (Int × List Int × Unit) × List (Int × Int × Int × Int × Int × Unit) × Int × Int × Int × List Int × Unit → List Int → Int → Option (List Int × Int × Unit)
  | 0, _, _, _, _, _ => none
  | fu + 1, from'2, v2, b, was, t59 => single_Run_b2 nf (fun p0 _ v0 v1 v2 v3 => single_Run_l4 nf p0 l' g0 nf v0 v1 v2 v3) l' at' r6 t42 g0 (single_Run_l2 nf l' at' r6 t42 g0 fu) from'2 v2 b was t59
def single_Run_l0 (nf : Nat) (l' : List (List (Int × List Int × Unit) × List (Int × Int × Int × Int × Int × Unit) × Int × Int × Int × List Int × Unit)) : Nat → List (List Int) → List Int → Int → Int → Int → Option (List Int × Int × Unit)
  | 0, _, _, _, _, _ => none
  | fu + 1, from', v, at', last, t42 => single_Run_b0 nf (fun _ p1 p2 p3 v0 v1 v2 v3 v4 => single_Run_l2 nf l' p1 p2 p3 (fun from' v at' last t42 => single_Run_l0 nf l'  fu from' v at' last t42) nf v0 v1 v2 v3 v4) l'  (single_Run_l0 nf l'  fu) from' v at' last t42
def single_Run_f (nf : Nat) (vars : Int) (l' : List (List (Int × List Int × Unit) × List (Int × Int × Int × Int × Int × Unit) × Int × Int × Int × List Int × Unit)) (have' : List Int) : Option (List Int × Int × Unit) := single_Run_p nf (fun p0 v0 v1 v2 v3 v4 => single_Run_l0 nf p0 nf v0 v1 v2 v3 v4) vars l' have'
noncomputable def single_Run_L0 (nf : Nat) : LC (List Int × Int × Unit) := theL (findL tab (single_Run_phi nf) (fun _ F => iter nf F) single_Run_keep 0 0 (codeOf Try.f8) (fin tab [((Ty.int IntKind.i64).sl, Md.own false (Md.bor false false)), (Ty.int IntKind.i64, Md.bor false true)] (resL (none) Try.f8)) (fun _ _ => none) (fin tab [((Ty.int IntKind.i64).sl, Md.own false (Md.bor false false)), (Ty.int IntKind.i64, Md.bor false true)] (resL (none) Try.f8)))
def single_Run_m0 (l' : List (List (Int × List Int × Unit) × List (Int × Int × Int × Int × Int × Unit) × Int × Int × Int × List Int × Unit)) (from' : List (List Int)) (v : List Int) (at' : Int) (last : Int) (t42 : Int) : St := ⟨fresh, [(1, AV.v (((Ty.int IntKind.i64).pair ((Ty.int IntKind.i64).sl.pair Ty.unit)).sl.pair (((Ty.int IntKind.i64).pair ((Ty.int IntKind.i64).pair ((Ty.int IntKind.i64).pair ((Ty.int IntKind.i64).pair ((Ty.int IntKind.i64).pair Ty.unit))))).sl.pair ((Ty.int IntKind.i64).pair ((Ty.int IntKind.i64).pair ((Ty.int IntKind.i64).pair ((Ty.int IntKind.i64).sl.pair Ty.unit)))))).sl (Md.bor true false) l'), (10, AV.ow 500010 (Ty.int IntKind.i64).sl.sl (Md.own false (Md.bor false false)) from'), (11, AV.ow 500011 (Ty.int IntKind.i64).sl (Md.own false (Md.bor false false)) v), (12, AV.v (Ty.int IntKind.i64) (Md.bor false true) at'), (13, AV.v (Ty.int IntKind.i64) (Md.bor false true) last), (37, AV.dead), (38, AV.dead), (42, AV.v (Ty.int IntKind.i64) (Md.bor false true) t42), (111, AV.dead)]⟩
noncomputable def single_Run_L2 (nf : Nat) (G0 : St → Option (List Int × Int × Unit)) : LC (List Int × Int × Unit) := theL (findL tab (single_Run_phi nf) (fun _ F => iter nf F) single_Run_keep 2 0 (single_Run_L0 nf ).c (fun st => norm (single_Run_keep 0) st G0) (single_Run_L0 nf ).Kx (single_Run_L0 nf ).Kr)
def single_Run_m2 (l' : List (List (Int × List Int × Unit) × List (Int × Int × Int × Int × Int × Unit) × Int × Int × Int × List Int × Unit)) (at' : Int) (r6 : Int × Unit) (t42 : Int) (from'2 : List (List Int)) (v2 : List Int) (b : List (Int × List Int × Unit) × List (Int × Int × Int × Int × Int × Unit) × Int × Int × Int × List Int × Unit) (was : List Int) (t59 : Int) : St := ⟨fresh, [(1, AV.v (((Ty.int IntKind.i64).pair ((Ty.int IntKind.i64).sl.pair Ty.unit)).sl.pair (((Ty.int IntKind.i64).pair ((Ty.int IntKind.i64).pair ((Ty.int IntKind.i64).pair ((Ty.int IntKind.i64).pair ((Ty.int IntKind.i64).pair Ty.unit))))).sl.pair ((Ty.int IntKind.i64).pair ((Ty.int IntKind.i64).pair ((Ty.int IntKind.i64).pair ((Ty.int IntKind.i64).sl.pair Ty.unit)))))).sl (Md.bor true false) l'), (10, AV.ow 500010 (Ty.int IntKind.i64).sl.sl (Md.own false (Md.bor false false)) from'2), (11, AV.ow 500011 (Ty.int IntKind.i64).sl (Md.own false (Md.bor false false)) v2), (12, AV.v (Ty.int IntKind.i64) (Md.bor false true) at'), (14, AV.box 14 500014 (((Ty.int IntKind.i64).pair ((Ty.int IntKind.i64).sl.pair Ty.unit)).sl.pair (((Ty.int IntKind.i64).pair ((Ty.int IntKind.i64).pair ((Ty.int IntKind.i64).pair ((Ty.int IntKind.i64).pair ((Ty.int IntKind.i64).pair Ty.unit))))).sl.pair ((Ty.int IntKind.i64).pair ((Ty.int IntKind.i64).pair ((Ty.int IntKind.i64).pair ((Ty.int IntKind.i64).sl.pair Ty.unit)))))) (Md.bor true false) b), (15, AV.v (Ty.int IntKind.i64) (Md.bor false true) r6.fst), (16, AV.ow 500016 (Ty.int IntKind.i64).sl (Md.own false (Md.bor false false)) was), (37, AV.dead), (38, AV.dead), (42, AV.v (Ty.int IntKind.i64) (Md.bor false true) t42), (55, AV.dead), (56, AV.pl 14 14 [Stp.dr, Stp.fld 0]), (57, AV.v ((Ty.int IntKind.i64).pair ((Ty.int IntKind.i64).sl.pair Ty.unit)).sl (Md.bor true false) (l'.getD at'.toNat ([], [], 0, 0, 0, [], ())).fst), (58, AV.v (Ty.int IntKind.i64) (Md.bor false true) (↑(List.length (l'.getD at'.toNat ([], [], 0, 0, 0, [], ())).fst) : Int)), (59, AV.v (Ty.int IntKind.i64) (Md.bor false true) t59), (111, AV.dead)]⟩
noncomputable def single_Run_L4 (nf : Nat) (G0 : St → Option (List Int × Int × Unit)) : LC (List Int × Int × Unit) := theL (findL tab (single_Run_phi nf) (fun _ F => iter nf F) single_Run_keep 4 0 (single_Run_L0 nf ).c (fun st => norm (single_Run_keep 0) st G0) (single_Run_L0 nf ).Kx (single_Run_L0 nf ).Kr)
def single_Run_m4 (b : List (Int × List Int × Unit) × List (Int × Int × Int × Int × Int × Unit) × Int × Int × Int × List Int × Unit) (l' : List (List (Int × List Int × Unit) × List (Int × Int × Int × Int × Int × Unit) × Int × Int × Int × List Int × Unit)) (v3 : List Int) (b2 : List (Int × List Int × Unit) × List (Int × Int × Int × Int × Int × Unit) × Int × Int × Int × List Int × Unit) (out : List Int) (t101 : Int) : St := ⟨fresh, [(11, AV.ow 500011 (Ty.int IntKind.i64).sl (Md.own false (Md.bor false false)) v3), (14, AV.box 14 500014 (((Ty.int IntKind.i64).pair ((Ty.int IntKind.i64).sl.pair Ty.unit)).sl.pair (((Ty.int IntKind.i64).pair ((Ty.int IntKind.i64).pair ((Ty.int IntKind.i64).pair ((Ty.int IntKind.i64).pair ((Ty.int IntKind.i64).pair Ty.unit))))).sl.pair ((Ty.int IntKind.i64).pair ((Ty.int IntKind.i64).pair ((Ty.int IntKind.i64).pair ((Ty.int IntKind.i64).sl.pair Ty.unit)))))) (Md.bor true false) b2), (19, AV.ow 500019 (Ty.int IntKind.i64).sl (Md.own false (Md.bor false false)) out), (38, AV.dead), (98, AV.pl 14 14 [Stp.dr, Stp.fld 5]), (99, AV.v (Ty.int IntKind.i64).sl (Md.bor true false) b.snd.snd.snd.snd.snd.fst), (100, AV.v (Ty.int IntKind.i64) (Md.bor false true) (↑(List.length b.snd.snd.snd.snd.snd.fst) : Int)), (101, AV.v (Ty.int IntKind.i64) (Md.bor false true) t101), (111, AV.dead)]⟩
theorem single_Run_h4 (nf : Nat) (G0 : St → Option (List Int × Int × Unit)) (b : List (Int × List Int × Unit) × List (Int × Int × Int × Int × Int × Unit) × Int × Int × Int × List Int × Unit) (l' : List (List (Int × List Int × Unit) × List (Int × Int × Int × Int × Int × Unit) × Int × Int × Int × List Int × Unit)) (fu : Nat) (v3 : List Int) (b2 : List (Int × List Int × Unit) × List (Int × Int × Int × Int × Int × Unit) × Int × Int × Int × List Int × Unit) (out : List Int) (t101 : Int) : iter (fu + 1) (LC.F tab (single_Run_phi nf) (fun _ F => iter nf F) single_Run_keep 4 (single_Run_L4 nf G0)) (single_Run_m4 b l' v3 b2 out t101) = single_Run_b4 nf  b l' (fun from' v at' last t42 => G0 (single_Run_m0 l' from' v at' last t42)) (fun v3 b2 out t101 => iter fu (LC.F tab (single_Run_phi nf) (fun _ F => iter nf F) single_Run_keep 4 (single_Run_L4 nf G0)) (single_Run_m4 b l' v3 b2 out t101)) v3 b2 out t101 := by kernel_rfl
theorem single_Run_e4 (nf : Nat) (G0 : St → Option (List Int × Int × Unit)) (b : List (Int × List Int × Unit) × List (Int × Int × Int × Int × Int × Unit) × Int × Int × Int × List Int × Unit) (l' : List (List (Int × List Int × Unit) × List (Int × Int × Int × Int × Int × Unit) × Int × Int × Int × List Int × Unit)) : ∀ (fu : Nat) (v3 : List Int) (b2 : List (Int × List Int × Unit) × List (Int × Int × Int × Int × Int × Unit) × Int × Int × Int × List Int × Unit) (out : List Int) (t101 : Int), iter fu (LC.F tab (single_Run_phi nf) (fun _ F => iter nf F) single_Run_keep 4 (single_Run_L4 nf G0)) (single_Run_m4 b l' v3 b2 out t101) = single_Run_l4 nf b l' (fun from' v at' last t42 => G0 (single_Run_m0 l' from' v at' last t42)) fu v3 b2 out t101 := by
  intro fu
  induction fu with
  | zero => intros; rfl
  | succ fu ih =>
    intro v3 b2 out t101
    rw [single_Run_h4 nf G0 b l' fu v3 b2 out t101]
    simp only [ih]
    rfl
theorem single_Run_h2 (nf : Nat) (G0 : St → Option (List Int × Int × Unit)) (l' : List (List (Int × List Int × Unit) × List (Int × Int × Int × Int × Int × Unit) × Int × Int × Int × List Int × Unit)) (at' : Int) (r6 : Int × Unit) (t42 : Int) (fu : Nat) (from'2 : List (List Int)) (v2 : List Int) (b : List (Int × List Int × Unit) × List (Int × Int × Int × Int × Int × Unit) × Int × Int × Int × List Int × Unit) (was : List Int) (t59 : Int) : iter (fu + 1) (LC.F tab (single_Run_phi nf) (fun _ F => iter nf F) single_Run_keep 2 (single_Run_L2 nf G0)) (single_Run_m2 l' at' r6 t42 from'2 v2 b was t59) = single_Run_b2 nf (fun p0 _ v0 v1 v2 v3 => iter nf (LC.F tab (single_Run_phi nf) (fun _ F => iter nf F) single_Run_keep 4 (single_Run_L4 nf G0)) (single_Run_m4 p0 l' v0 v1 v2 v3)) l' at' r6 t42 (fun from' v at' last t42 => G0 (single_Run_m0 l' from' v at' last t42)) (fun from'2 v2 b was t59 => iter fu (LC.F tab (single_Run_phi nf) (fun _ F => iter nf F) single_Run_keep 2 (single_Run_L2 nf G0)) (single_Run_m2 l' at' r6 t42 from'2 v2 b was t59)) from'2 v2 b was t59 := by kernel_rfl
theorem single_Run_e2 (nf : Nat) (G0 : St → Option (List Int × Int × Unit)) (l' : List (List (Int × List Int × Unit) × List (Int × Int × Int × Int × Int × Unit) × Int × Int × Int × List Int × Unit)) (at' : Int) (r6 : Int × Unit) (t42 : Int) : ∀ (fu : Nat) (from'2 : List (List Int)) (v2 : List Int) (b : List (Int × List Int × Unit) × List (Int × Int × Int × Int × Int × Unit) × Int × Int × Int × List Int × Unit) (was : List Int) (t59 : Int), iter fu (LC.F tab (single_Run_phi nf) (fun _ F => iter nf F) single_Run_keep 2 (single_Run_L2 nf G0)) (single_Run_m2 l' at' r6 t42 from'2 v2 b was t59) = single_Run_l2 nf l' at' r6 t42 (fun from' v at' last t42 => G0 (single_Run_m0 l' from' v at' last t42)) fu from'2 v2 b was t59 := by
  intro fu
  induction fu with
  | zero => intros; rfl
  | succ fu ih =>
    intro from'2 v2 b was t59
    rw [single_Run_h2 nf G0 l' at' r6 t42 fu from'2 v2 b was t59]
    simp only [ih, single_Run_e4]
    rfl
theorem single_Run_h0 (nf : Nat)  (l' : List (List (Int × List Int × Unit) × List (Int × Int × Int × Int × Int × Unit) × Int × Int × Int × List Int × Unit)) (fu : Nat) (from' : List (List Int)) (v : List Int) (at' : Int) (last : Int) (t42 : Int) : iter (fu + 1) (LC.F tab (single_Run_phi nf) (fun _ F => iter nf F) single_Run_keep 0 (single_Run_L0 nf )) (single_Run_m0 l' from' v at' last t42) = single_Run_b0 nf (fun _ p1 p2 p3 v0 v1 v2 v3 v4 => iter nf (LC.F tab (single_Run_phi nf) (fun _ F => iter nf F) single_Run_keep 2 (single_Run_L2 nf (iter fu (LC.F tab (single_Run_phi nf) (fun _ F => iter nf F) single_Run_keep 0 (single_Run_L0 nf ))))) (single_Run_m2 l' p1 p2 p3 v0 v1 v2 v3 v4)) l'  (fun from' v at' last t42 => iter fu (LC.F tab (single_Run_phi nf) (fun _ F => iter nf F) single_Run_keep 0 (single_Run_L0 nf )) (single_Run_m0 l' from' v at' last t42)) from' v at' last t42 := by kernel_rfl
theorem single_Run_e0 (nf : Nat)  (l' : List (List (Int × List Int × Unit) × List (Int × Int × Int × Int × Int × Unit) × Int × Int × Int × List Int × Unit)) : ∀ (fu : Nat) (from' : List (List Int)) (v : List Int) (at' : Int) (last : Int) (t42 : Int), iter fu (LC.F tab (single_Run_phi nf) (fun _ F => iter nf F) single_Run_keep 0 (single_Run_L0 nf )) (single_Run_m0 l' from' v at' last t42) = single_Run_l0 nf l'  fu from' v at' last t42 := by
  intro fu
  induction fu with
  | zero => intros; rfl
  | succ fu ih =>
    intro from' v at' last t42
    rw [single_Run_h0 nf  l' fu from' v at' last t42]
    simp only [ih, single_Run_e2]
    rfl
theorem single_Run_eq (nf : Nat) (vars : Int) (l' : List (List (Int × List Int × Unit) × List (Int × Int × Int × Int × Int × Unit) × Int × Int × Int × List Int × Unit)) (have' : List Int) : runF tab (single_Run_phi nf) single_Run_keep nf [PT.val (Ty.int IntKind.i64) (Md.bor true false), PT.val (((Ty.int IntKind.i64).pair ((Ty.int IntKind.i64).sl.pair Ty.unit)).sl.pair (((Ty.int IntKind.i64).pair ((Ty.int IntKind.i64).pair ((Ty.int IntKind.i64).pair ((Ty.int IntKind.i64).pair ((Ty.int IntKind.i64).pair Ty.unit))))).sl.pair ((Ty.int IntKind.i64).pair ((Ty.int IntKind.i64).pair ((Ty.int IntKind.i64).pair ((Ty.int IntKind.i64).sl.pair Ty.unit)))))).sl (Md.bor true false), PT.val (Ty.int IntKind.i64).sl (Md.bor true false)] [((Ty.int IntKind.i64).sl, Md.own false (Md.bor false false)), (Ty.int IntKind.i64, Md.bor false true)] (resL (none) Try.f8) (codeOf Try.f8) ⟨vars, l', have', ()⟩ = single_Run_f nf vars l' have' := by
  have h : runF tab (single_Run_phi nf) single_Run_keep nf [PT.val (Ty.int IntKind.i64) (Md.bor true false), PT.val (((Ty.int IntKind.i64).pair ((Ty.int IntKind.i64).sl.pair Ty.unit)).sl.pair (((Ty.int IntKind.i64).pair ((Ty.int IntKind.i64).pair ((Ty.int IntKind.i64).pair ((Ty.int IntKind.i64).pair ((Ty.int IntKind.i64).pair Ty.unit))))).sl.pair ((Ty.int IntKind.i64).pair ((Ty.int IntKind.i64).pair ((Ty.int IntKind.i64).pair ((Ty.int IntKind.i64).sl.pair Ty.unit)))))).sl (Md.bor true false), PT.val (Ty.int IntKind.i64).sl (Md.bor true false)] [((Ty.int IntKind.i64).sl, Md.own false (Md.bor false false)), (Ty.int IntKind.i64, Md.bor false true)] (resL (none) Try.f8) (codeOf Try.f8) ⟨vars, l', have', ()⟩ = single_Run_p nf (fun p0 v0 v1 v2 v3 v4 => iter nf (LC.F tab (single_Run_phi nf) (fun _ F => iter nf F) single_Run_keep 0 (single_Run_L0 nf)) (single_Run_m0 p0 v0 v1 v2 v3 v4)) vars l' have' := by kernel_rfl
  rw [h]
  simp only [single_Run_e0]
  rfl
def single_Run_F (nf : Nat) (x : denPs [.val (.int .i64) (.bor true false), .val (.sl (.pair (.sl (.pair (.int .i64) (.pair (.sl (.int .i64)) (.unit)))) (.pair (.sl (.pair (.int .i64) (.pair (.int .i64) (.pair (.int .i64) (.pair (.int .i64) (.pair (.int .i64) (.unit))))))) (.pair (.int .i64) (.pair (.int .i64) (.pair (.int .i64) (.pair (.sl (.int .i64)) (.unit)))))))) (.bor true false), .val (.sl (.int .i64)) (.bor true false)]) : Option (denL [(.sl (.int .i64), .own false (.bor false false)), (.int .i64, .bor false true)]) := single_Run_f nf x.1 x.2.1 x.2.2.1
def single_Run_C (nf : Nat) : Contract := ⟨[.val (.int .i64) (.bor true false), .val (.sl (.pair (.sl (.pair (.int .i64) (.pair (.sl (.int .i64)) (.unit)))) (.pair (.sl (.pair (.int .i64) (.pair (.int .i64) (.pair (.int .i64) (.pair (.int .i64) (.pair (.int .i64) (.unit))))))) (.pair (.int .i64) (.pair (.int .i64) (.pair (.int .i64) (.pair (.sl (.int .i64)) (.unit)))))))) (.bor true false), .val (.sl (.int .i64)) (.bor true false)], [(.sl (.int .i64), .own false (.bor false false)), (.int .i64, .bor false true)], single_Run_F nf, none⟩
theorem single_Run_ok : FnOK Try.prog 8 := ⟨Try.f8, codeOf Try.f8, Try.func8, by kernel_rfl, by kernel_rfl⟩
theorem single_Run_holds (nf : Nat) : Contract.Holds Try.prog 8 (single_Run_C nf) :=
  fn_holds (Φ := single_Run_phi nf) (keep := single_Run_keep) (n := nf) ⟨tabs.1, tabs.2, (ctx_cons single_Check_ok (single_Check_holds nf) (ctx_cons single_From_ok (single_From_holds nf) (ctx_cons block_Next_ok (block_Next_holds nf) (ctx_cons single_bare_ok (single_bare_holds nf) (ctx_cons term_Have_ok (term_Have_holds nf) (ctx_cons slices_Index_ok (slices_Index_holds nf) (ctx_cons slices_Clone_ok (slices_Clone_holds nf) (ctx_cons block_Do_ok (block_Do_holds nf) ctx_nil)))))))), mixed⟩ (fn := Try.f8) ⟨Try.func8, by kernel_rfl, by kernel_rfl, by kernel_rfl⟩ (fun x => single_Run_eq nf x.1 x.2.1 x.2.2.1)

/-! codemason codemasonref.Doing -/
def ref_Doing_phi (nf : Nat) : Nat → Option Contract := lookC [(45, ref_Op_C nf)]
def ref_Doing_keep : Nat → List Nat := lookK [(0, [0, 1, 10, 11, 12, 13])]
def ref_Doing_b0 (nf : Nat) (code' : List (Int × Int × Int × Int × Int × Unit)) (g0 : List Int → Int → Option (List Int × Unit)) (v2 : List Int) (t13 : Int) : Option (List Int × Unit) :=
  bif decide (t13 < (↑code'.length : Int)) then
    bif inb t13 code'.length then
      bif (code'.getD t13.toNat (0, 0, 0, 0, 0, ())).fst == 2 then
        bif inb (code'.getD t13.toNat (0, 0, 0, 0, 0, ())).snd.snd.snd.snd.fst v2.length then
          bif decide ((code'.getD t13.toNat (0, 0, 0, 0, 0, ())).fst ≥ 3) then
            bif inb (code'.getD t13.toNat (0, 0, 0, 0, 0, ())).snd.snd.fst v2.length then
              bif inb (code'.getD t13.toNat (0, 0, 0, 0, 0, ())).snd.snd.snd.fst v2.length then
                Option.bind (ref_Op_f nf ((code'.getD t13.toNat (0, 0, 0, 0, 0, ())).fst) (v2.getD (Int.toNat (code'.getD t13.toNat (0, 0, 0, 0, 0, ())).snd.snd.fst) 0) (v2.getD (Int.toNat (code'.getD t13.toNat (0, 0, 0, 0, 0, ())).snd.snd.snd.fst) 0)) fun r =>
                bif inb (code'.getD t13.toNat (0, 0, 0, 0, 0, ())).snd.fst v2.length then
                  g0 (v2.set (Int.toNat (code'.getD t13.toNat (0, 0, 0, 0, 0, ())).snd.fst) r.fst) (IntKind.i64.wrap (t13 + 1))
                else
                  none
              else
                none
            else
              none
          else
            bif inb (code'.getD t13.toNat (0, 0, 0, 0, 0, ())).snd.fst v2.length then
              g0 (v2.set (Int.toNat (code'.getD t13.toNat (0, 0, 0, 0, 0, ())).snd.fst) (v2.getD (Int.toNat (code'.getD t13.toNat (0, 0, 0, 0, 0, ())).snd.snd.snd.snd.fst) 0)) (IntKind.i64.wrap (t13 + 1))
            else
              none
        else
          none
      else
        bif decide ((code'.getD t13.toNat (0, 0, 0, 0, 0, ())).fst ≥ 3) then
          bif inb (code'.getD t13.toNat (0, 0, 0, 0, 0, ())).snd.snd.fst v2.length then
            bif inb (code'.getD t13.toNat (0, 0, 0, 0, 0, ())).snd.snd.snd.fst v2.length then
              Option.bind (ref_Op_f nf ((code'.getD t13.toNat (0, 0, 0, 0, 0, ())).fst) (v2.getD (Int.toNat (code'.getD t13.toNat (0, 0, 0, 0, 0, ())).snd.snd.fst) 0) (v2.getD (Int.toNat (code'.getD t13.toNat (0, 0, 0, 0, 0, ())).snd.snd.snd.fst) 0)) fun r2 =>
              bif inb (code'.getD t13.toNat (0, 0, 0, 0, 0, ())).snd.fst v2.length then
                g0 (v2.set (Int.toNat (code'.getD t13.toNat (0, 0, 0, 0, 0, ())).snd.fst) r2.fst) (IntKind.i64.wrap (t13 + 1))
              else
                none
            else
              none
          else
            none
        else
          bif inb (code'.getD t13.toNat (0, 0, 0, 0, 0, ())).snd.fst v2.length then
            g0 (v2.set (Int.toNat (code'.getD t13.toNat (0, 0, 0, 0, 0, ())).snd.fst) (code'.getD t13.toNat (0, 0, 0, 0, 0, ())).snd.snd.snd.snd.fst) (IntKind.i64.wrap (t13 + 1))
          else
            none
    else
      none
  else
    some ((v2, ()))
def ref_Doing_p (nf : Nat) (l0 : List (Int × Int × Int × Int × Int × Unit) → List Int → Int → Option (List Int × Unit)) (code' : List (Int × Int × Int × Int × Int × Unit)) (v : List Int) : Option (List Int × Unit) :=
  bif bimp false !v.isEmpty && ((List.length ([] : List Unit)) + v.length).ble lim then
    l0 code' ([] ++ v) 0
  else
    none
def ref_Doing_l0 (nf : Nat) (code' : List (Int × Int × Int × Int × Int × Unit)) : Nat → List Int → Int → Option (List Int × Unit)
  | 0, _, _ => none
  | fu + 1, v2, t13 => ref_Doing_b0 nf  code'  (ref_Doing_l0 nf code'  fu) v2 t13
def ref_Doing_f (nf : Nat) (code' : List (Int × Int × Int × Int × Int × Unit)) (v : List Int) : Option (List Int × Unit) := ref_Doing_p nf (fun p0 v0 v1 => ref_Doing_l0 nf p0 nf v0 v1) code' v
noncomputable def ref_Doing_L0 (nf : Nat) : LC (List Int × Unit) := theL (findL tab (ref_Doing_phi nf) (fun _ F => iter nf F) ref_Doing_keep 0 0 (codeOf Try.f29) (fin tab [((Ty.int IntKind.i64).sl, Md.own false (Md.bor false false))] (resL (none) Try.f29)) (fun _ _ => none) (fin tab [((Ty.int IntKind.i64).sl, Md.own false (Md.bor false false))] (resL (none) Try.f29)))
def ref_Doing_m0 (code' : List (Int × Int × Int × Int × Int × Unit)) (v2 : List Int) (t13 : Int) : St := ⟨fresh, [(0, AV.v ((Ty.int IntKind.i64).pair ((Ty.int IntKind.i64).pair ((Ty.int IntKind.i64).pair ((Ty.int IntKind.i64).pair ((Ty.int IntKind.i64).pair Ty.unit))))).sl (Md.bor true false) code'), (1, AV.ow 500001 (Ty.int IntKind.i64).sl (Md.own false (Md.bor false false)) v2), (10, AV.dead), (11, AV.v ((Ty.int IntKind.i64).pair ((Ty.int IntKind.i64).pair ((Ty.int IntKind.i64).pair ((Ty.int IntKind.i64).pair ((Ty.int IntKind.i64).pair Ty.unit))))).sl (Md.bor true false) code'), (12, AV.v (Ty.int IntKind.i64) (Md.bor false true) (↑code'.length : Int)), (13, AV.v (Ty.int IntKind.i64) (Md.bor false true) t13)]⟩
theorem ref_Doing_h0 (nf : Nat)  (code' : List (Int × Int × Int × Int × Int × Unit)) (fu : Nat) (v2 : List Int) (t13 : Int) : iter (fu + 1) (LC.F tab (ref_Doing_phi nf) (fun _ F => iter nf F) ref_Doing_keep 0 (ref_Doing_L0 nf )) (ref_Doing_m0 code' v2 t13) = ref_Doing_b0 nf  code'  (fun v2 t13 => iter fu (LC.F tab (ref_Doing_phi nf) (fun _ F => iter nf F) ref_Doing_keep 0 (ref_Doing_L0 nf )) (ref_Doing_m0 code' v2 t13)) v2 t13 := by kernel_rfl
theorem ref_Doing_e0 (nf : Nat)  (code' : List (Int × Int × Int × Int × Int × Unit)) : ∀ (fu : Nat) (v2 : List Int) (t13 : Int), iter fu (LC.F tab (ref_Doing_phi nf) (fun _ F => iter nf F) ref_Doing_keep 0 (ref_Doing_L0 nf )) (ref_Doing_m0 code' v2 t13) = ref_Doing_l0 nf code'  fu v2 t13 := by
  intro fu
  induction fu with
  | zero => intros; rfl
  | succ fu ih =>
    intro v2 t13
    rw [ref_Doing_h0 nf  code' fu v2 t13]
    simp only [ih]
    rfl
theorem ref_Doing_eq (nf : Nat) (code' : List (Int × Int × Int × Int × Int × Unit)) (v : List Int) : runF tab (ref_Doing_phi nf) ref_Doing_keep nf [PT.val ((Ty.int IntKind.i64).pair ((Ty.int IntKind.i64).pair ((Ty.int IntKind.i64).pair ((Ty.int IntKind.i64).pair ((Ty.int IntKind.i64).pair Ty.unit))))).sl (Md.bor true false), PT.val (Ty.int IntKind.i64).sl (Md.bor true false)] [((Ty.int IntKind.i64).sl, Md.own false (Md.bor false false))] (resL (none) Try.f29) (codeOf Try.f29) ⟨code', v, ()⟩ = ref_Doing_f nf code' v := by
  have h : runF tab (ref_Doing_phi nf) ref_Doing_keep nf [PT.val ((Ty.int IntKind.i64).pair ((Ty.int IntKind.i64).pair ((Ty.int IntKind.i64).pair ((Ty.int IntKind.i64).pair ((Ty.int IntKind.i64).pair Ty.unit))))).sl (Md.bor true false), PT.val (Ty.int IntKind.i64).sl (Md.bor true false)] [((Ty.int IntKind.i64).sl, Md.own false (Md.bor false false))] (resL (none) Try.f29) (codeOf Try.f29) ⟨code', v, ()⟩ = ref_Doing_p nf (fun p0 v0 v1 => iter nf (LC.F tab (ref_Doing_phi nf) (fun _ F => iter nf F) ref_Doing_keep 0 (ref_Doing_L0 nf)) (ref_Doing_m0 p0 v0 v1)) code' v := by kernel_rfl
  rw [h]
  simp only [ref_Doing_e0]
  rfl
def ref_Doing_F (nf : Nat) (x : denPs [.val (.sl (.pair (.int .i64) (.pair (.int .i64) (.pair (.int .i64) (.pair (.int .i64) (.pair (.int .i64) (.unit))))))) (.bor true false), .val (.sl (.int .i64)) (.bor true false)]) : Option (denL [(.sl (.int .i64), .own false (.bor false false))]) := ref_Doing_f nf x.1 x.2.1
def ref_Doing_C (nf : Nat) : Contract := ⟨[.val (.sl (.pair (.int .i64) (.pair (.int .i64) (.pair (.int .i64) (.pair (.int .i64) (.pair (.int .i64) (.unit))))))) (.bor true false), .val (.sl (.int .i64)) (.bor true false)], [(.sl (.int .i64), .own false (.bor false false))], ref_Doing_F nf, none⟩
theorem ref_Doing_ok : FnOK Try.prog 29 := ⟨Try.f29, codeOf Try.f29, Try.func29, by kernel_rfl, by kernel_rfl⟩
theorem ref_Doing_holds (nf : Nat) : Contract.Holds Try.prog 29 (ref_Doing_C nf) :=
  fn_holds (Φ := ref_Doing_phi nf) (keep := ref_Doing_keep) (n := nf) ⟨tabs.1, tabs.2, (ctx_cons ref_Op_ok (ref_Op_holds nf) ctx_nil), mixed⟩ (fn := Try.f29) ⟨Try.func29, by kernel_rfl, by kernel_rfl, by kernel_rfl⟩ (fun x => ref_Doing_eq nf x.1 x.2.1)

/-! codemason codemasonref.SingleRun -/
def ref_SingleRun_phi (nf : Nat) : Nat → Option Contract := lookC [(21, ref_Froms_C nf), (22, ref_Nexts_C nf), (23, ref_Bare_C nf), (29, ref_Doing_C nf)]
def ref_SingleRun_keep : Nat → List Nat := lookK [(8, [1, 9, 19, 26, 89, 120, 122, 123, 124, 125, 126, 136]), (6, [1, 8, 9, 11, 12, 13, 14, 16, 25, 26, 45, 46, 48, 49, 50, 51, 52, 56, 58, 59, 60, 61, 89, 136]), (4, [1, 8, 9, 11, 12, 13, 14, 25, 26, 45, 46, 48, 49, 50, 51, 52, 89, 136]), (2, [1, 8, 9, 11, 12, 13, 25, 26, 89, 136]), (0, [0, 1, 2, 8, 9, 10, 25, 26, 89, 136])]
def ref_SingleRun_b0 (nf : Nat) (l2 : List (List (Int × List Int × Unit) × List (Int × Int × Int × Int × Int × Unit) × Int × Int × Int × List Int × Unit) → List (List Int) → List Int → Int → Int → Int → Option (List Int × Bool × Unit)) (vars : Int) (l' : List (List (Int × List Int × Unit) × List (Int × Int × Int × Int × Int × Unit) × Int × Int × Int × List Int × Unit)) (have' : List Int) (g0 : List (List Int) → List Int → Int → Option (List Int × Bool × Unit)) (from' : List (List Int)) (v : List Int) (i : Int) : Option (List Int × Bool × Unit) :=
  bif decide (i < vars) then
    bif inb i have'.length then
      bif inb i v.length then
        g0 from' (v.set i.toNat (have'.getD i.toNat 0)) (IntKind.i64.wrap (i + 1))
      else
        none
    else
      none
  else
    l2 l' from' v 0 (-1) 0
def ref_SingleRun_b2 (nf : Nat) (l4 : List (List (Int × List Int × Unit) × List (Int × Int × Int × Int × Int × Unit) × Int × Int × Int × List Int × Unit) → Int → Int → Int → List (List Int) → List Int → List Int → Int → Option (List Int × Bool × Unit)) (l' : List (List (Int × List Int × Unit) × List (Int × Int × Int × Int × Int × Unit) × Int × Int × Int × List Int × Unit)) (g2 : List (List Int) → List Int → Int → Int → Int → Option (List Int × Bool × Unit)) (from'2 : List (List Int)) (v2 : List Int) (at' : Int) (last : Int) (k' : Int) : Option (List Int × Bool × Unit) :=
  bif decide (k' < 200) then
    bif bimp false !v2.isEmpty && ((List.length ([] : List Unit)) + v2.length).ble lim then
      bif inb at' l'.length then
        l4 l' at' last k' from'2 v2 ([] ++ v2) 0
      else
        none
    else
      none
  else
    some (([], false, ()))
def ref_SingleRun_b4 (nf : Nat) (l6 : List (List (Int × List Int × Unit) × List (Int × Int × Int × Int × Int × Unit) × Int × Int × Int × List Int × Unit) → Int → Int → Int → Int → List (List Int) → List (List Int) → List Int → List Int → Int × List Int × Unit → Int → Option (List Int × Bool × Unit)) (l8 : List (List (Int × List Int × Unit) × List (Int × Int × Int × Int × Int × Unit) × Int × Int × Int × List Int × Unit) → Int → List Int → List Int → Int → Option (List Int × Bool × Unit)) (l' : List (List (Int × List Int × Unit) × List (Int × Int × Int × Int × Int × Unit) × Int × Int × Int × List Int × Unit)) (at' : Int) (last : Int) (k' : Int) (g2 : List (List Int) → List Int → Int → Int → Int → Option (List Int × Bool × Unit)) (g4 : List (List Int) → List Int → List Int → Int → Option (List Int × Bool × Unit)) (from'3 : List (List Int)) (v3 : List Int) (w : List Int) (t52 : Int) : Option (List Int × Bool × Unit) :=
  bif decide (t52 < (↑(List.length (l'.getD at'.toNat ([], [], 0, 0, 0, [], ())).fst) : Int)) then
    bif inb t52 (List.length (l'.getD at'.toNat ([], [], 0, 0, 0, [], ())).fst) then
      bif inb at' from'3.length then
        l6 l' at' last k' t52 from'3 from'3 v3 w (List.getD (l'.getD at'.toNat ([], [], 0, 0, 0, [], ())).fst t52.toNat (0, [], ())) 0
      else
        none
    else
      none
  else
    bif inb at' l'.length then
      Option.bind (ref_Doing_f nf ((l'.getD at'.toNat ([], [], 0, 0, 0, [], ())).snd.fst) w) fun r4 =>
      bif inb at' l'.length then
        bif decide ((l'.getD at'.toNat ([], [], 0, 0, 0, [], ())).snd.snd.fst ≥ 0) then
          bif inb at' l'.length then
            bif inb (l'.getD at'.toNat ([], [], 0, 0, 0, [], ())).snd.snd.fst (List.length r4.fst) then
              bif List.getD r4.fst (Int.toNat (l'.getD at'.toNat ([], [], 0, 0, 0, [], ())).snd.snd.fst) 0 == 0 then
                bif inb at' l'.length then
                  bif (l'.getD at'.toNat ([], [], 0, 0, 0, [], ())).snd.snd.snd.snd.fst == (-1) then
                    bif inb at' l'.length then
                      l8 l' at' r4.fst [] 0
                    else
                      none
                  else
                    g2 from'3 r4.fst ((l'.getD at'.toNat ([], [], 0, 0, 0, [], ())).snd.snd.snd.snd.fst) at' (IntKind.i64.wrap (k' + 1))
                else
                  none
              else
                bif inb at' l'.length then
                  bif (l'.getD at'.toNat ([], [], 0, 0, 0, [], ())).snd.snd.snd.fst == (-1) then
                    bif inb at' l'.length then
                      l8 l' at' r4.fst [] 0
                    else
                      none
                  else
                    g2 from'3 r4.fst ((l'.getD at'.toNat ([], [], 0, 0, 0, [], ())).snd.snd.snd.fst) at' (IntKind.i64.wrap (k' + 1))
                else
                  none
            else
              none
          else
            none
        else
          bif inb at' l'.length then
            bif (l'.getD at'.toNat ([], [], 0, 0, 0, [], ())).snd.snd.snd.fst == (-1) then
              bif inb at' l'.length then
                l8 l' at' r4.fst [] 0
              else
                none
            else
              g2 from'3 r4.fst ((l'.getD at'.toNat ([], [], 0, 0, 0, [], ())).snd.snd.snd.fst) at' (IntKind.i64.wrap (k' + 1))
          else
            none
      else
        none
    else
      none
def ref_SingleRun_b6 (nf : Nat) (l' : List (List (Int × List Int × Unit) × List (Int × Int × Int × Int × Int × Unit) × Int × Int × Int × List Int × Unit)) (at' : Int) (last : Int) (k' : Int) (t52 : Int) (from'3 : List (List Int)) (g4 : List (List Int) → List Int → List Int → Int → Option (List Int × Bool × Unit)) (g2 : List (List Int) → List Int → Int → Int → Int → Option (List Int × Bool × Unit)) (g6 : List (List Int) → List Int → List Int → Int × List Int × Unit → Int → Option (List Int × Bool × Unit)) (from'4 : List (List Int)) (v4 : List Int) (w2 : List Int) (j : Int × List Int × Unit) (t61 : Int) : Option (List Int × Bool × Unit) :=
  bif decide (t61 < (↑(List.length (from'3.getD at'.toNat [])) : Int)) then
    bif inb t61 (List.length (from'3.getD at'.toNat [])) then
      bif List.getD (from'3.getD at'.toNat []) t61.toNat 0 == last then
        bif inb t61 (List.length j.snd.fst) then
          bif inb (List.getD j.snd.fst t61.toNat 0) v4.length then
            bif inb j.fst w2.length then
              g6 from'4 v4 (w2.set (Int.toNat j.fst) (v4.getD (Int.toNat (List.getD j.snd.fst t61.toNat 0)) 0)) j (IntKind.i64.wrap (t61 + 1))
            else
              none
          else
            none
        else
          none
      else
        g6 from'4 v4 w2 j (IntKind.i64.wrap (t61 + 1))
    else
      none
  else
    g4 from'4 v4 w2 (IntKind.i64.wrap (t52 + 1))
def ref_SingleRun_b8 (nf : Nat) (l' : List (List (Int × List Int × Unit) × List (Int × Int × Int × Int × Int × Unit) × Int × Int × Int × List Int × Unit)) (at' : Int) (g2 : List (List Int) → List Int → Int → Int → Int → Option (List Int × Bool × Unit)) (g8 : List Int → List Int → Int → Option (List Int × Bool × Unit)) (v5 : List Int) (out : List Int) (t126 : Int) : Option (List Int × Bool × Unit) :=
  bif decide (t126 < (↑(List.length (l'.getD at'.toNat ([], [], 0, 0, 0, [], ())).snd.snd.snd.snd.snd.fst) : Int)) then
    bif inb t126 (List.length (l'.getD at'.toNat ([], [], 0, 0, 0, [], ())).snd.snd.snd.snd.snd.fst) then
      bif inb (List.getD (l'.getD at'.toNat ([], [], 0, 0, 0, [], ())).snd.snd.snd.snd.snd.fst t126.toNat 0) v5.length then
        bif bimp false ![v5.getD (Int.toNat (List.getD (l'.getD at'.toNat ([], [], 0, 0, 0, [], ())).snd.snd.snd.snd.snd.fst t126.toNat 0)) 0].isEmpty && (out.length + [v5.getD (Int.toNat (List.getD (l'.getD at'.toNat ([], [], 0, 0, 0, [], ())).snd.snd.snd.snd.snd.fst t126.toNat 0)) 0].length).ble lim then
          g8 v5 (out ++ [v5.getD (Int.toNat (List.getD (l'.getD at'.toNat ([], [], 0, 0, 0, [], ())).snd.snd.snd.snd.snd.fst t126.toNat 0)) 0]) (IntKind.i64.wrap (t126 + 1))
        else
          none
      else
        none
    else
      none
  else
    some ((out, true, ()))
def ref_SingleRun_p (nf : Nat) (l0 : Int → List (List (Int × List Int × Unit) × List (Int × Int × Int × Int × Int × Unit) × Int × Int × Int × List Int × Unit) → List Int → List (List Int) → List Int → Int → Option (List Int × Bool × Unit)) (vars : Int) (l' : List (List (Int × List Int × Unit) × List (Int × Int × Int × Int × Int × Unit) × Int × Int × Int × List Int × Unit)) (have' : List Int) : Option (List Int × Bool × Unit) :=
  Option.bind (ref_Bare_f nf l') fun r =>
  Option.bind (ref_Nexts_f nf r.fst) fun r2 =>
  Option.bind (ref_Froms_f nf r2.fst) fun r3 =>
  l0 vars l' have' r3.fst (List.replicate 128 0) 0
def ref_SingleRun_l8 (nf : Nat) (l' : List (List (Int × List Int × Unit) × List (Int × Int × Int × Int × Int × Unit) × Int × Int × Int × List Int × Unit)) (at' : Int) (g2 : List (List Int) → List Int → Int → Int → Int → Option (List Int × Bool × Unit)) : Nat → List Int → List Int → Int → Option (List Int × Bool × Unit)
  | 0, _, _, _ => none
  | fu + 1, v5, out, t126 => ref_SingleRun_b8 nf  l' at' g2 (ref_SingleRun_l8 nf l' at' g2 fu) v5 out t126
def ref_SingleRun_l6 (nf : Nat) (l' : List (List (Int × List Int × Unit) × List (Int × Int × Int × Int × Int × Unit) × Int × Int × Int × List Int × Unit)) (at' : Int) (last : Int) (k' : Int) (t52 : Int) (from'3 : List (List Int)) (g4 : List (List Int) → List Int → List Int → Int → Option (List Int × Bool × Unit)) (g2 : List (List Int) → List Int → Int → Int → Int → Option (List Int × Bool × Unit)) : Nat → List (List Int) → List Int → List Int → Int × List Int × Unit → Int → Option (List Int × Bool × Unit)
  | 0, _, _, _, _, _ => none
  | fu + 1, from'4, v4, w2, j, t61 => ref_SingleRun_b6 nf  l' at' last k' t52 from'3 g4 g2 (ref_SingleRun_l6 nf l' at' last k' t52 from'3 g4 g2 fu) from'4 v4 w2 j t61
def ref_SingleRun_l4 (nf : Nat) (l' : List (List (Int × List Int × Unit) × List (Int × Int × Int × Int × Int × Unit) × Int × Int × Int × List Int × Unit)) (at' : Int) (last : Int) (k' : Int) (g2 : List (List Int) → List Int → Int → Int → Int → Option (List Int × Bool × Unit)) : Nat → List (List Int) → List Int → List Int → Int → Option (List Int × Bool × Unit)
  | 0, _, _, _, _ => none
  | fu + 1, from'3, v3, w, t52 => ref_SingleRun_b4 nf (fun _ _ _ _ p4 p5 v0 v1 v2 v3 v4 => ref_SingleRun_l6 nf l' at' last k' p4 p5 (fun from'3 v3 w t52 => ref_SingleRun_l4 nf l' at' last k' g2 fu from'3 v3 w t52) g2 nf v0 v1 v2 v3 v4) (fun _ _ v0 v1 v2 => ref_SingleRun_l8 nf l' at' g2 nf v0 v1 v2) l' at' last k' g2 (ref_SingleRun_l4 nf l' at' last k' g2 fu) from'3 v3 w t52
def ref_SingleRun_l2 (nf : Nat) (l' : List (List (Int × List Int × Unit) × List (Int × Int × Int × Int × Int × Unit) × Int × Int × Int × List Int × Unit)) : Nat → List (List Int) → List Int → Int → Int → Int → Option (List Int × Bool × Unit)
  | 0, _, _, _, _, _ => none
  | fu + 1, from'2, v2, at', last, k' => ref_SingleRun_b2 nf (fun _ p1 p2 p3 v0 v1 v2 v3 => ref_SingleRun_l4 nf l' p1 p2 p3 (fun from'2 v2 at' last k' => ref_SingleRun_l2 nf l'  fu from'2 v2 at' last k') nf v0 v1 v2 v3) l'  (ref_SingleRun_l2 nf l'  fu) from'2 v2 at' last k'
def ref_SingleRun_l0 (nf : Nat) (vars : Int) (l' : List (List (Int × List Int × Unit) × List (Int × Int × Int × Int × Int × Unit) × Int × Int × Int × List Int × Unit)) (have' : List Int) : Nat → List (List Int) → List Int → Int → Option (List Int × Bool × Unit)
  | 0, _, _, _ => none
  | fu + 1, from', v, i => ref_SingleRun_b0 nf (fun _ v0 v1 v2 v3 v4 => ref_SingleRun_l2 nf l'  nf v0 v1 v2 v3 v4) vars l' have'  (ref_SingleRun_l0 nf vars l' have'  fu) from' v i
def ref_SingleRun_f (nf : Nat) (vars : Int) (l' : List (List (Int × List Int × Unit) × List (Int × Int × Int × Int × Int × Unit) × Int × Int × Int × List Int × Unit)) (have' : List Int) : Option (List Int × Bool × Unit) := ref_SingleRun_p nf (fun p0 p1 p2 v0 v1 v2 => ref_SingleRun_l0 nf p0 p1 p2 nf v0 v1 v2) vars l' have'
noncomputable def ref_SingleRun_L0 (nf : Nat) : LC (List Int × Bool × Unit) := theL (findL tab (ref_SingleRun_phi nf) (fun _ F => iter nf F) ref_SingleRun_keep 0 0 (codeOf Try.f10) (fin tab [((Ty.int IntKind.i64).sl, Md.own false (Md.bor false false)), (Ty.bool, Md.bor false true)] (resL (none) Try.f10)) (fun _ _ => none) (fin tab [((Ty.int IntKind.i64).sl, Md.own false (Md.bor false false)), (Ty.bool, Md.bor false true)] (resL (none) Try.f10)))
def ref_SingleRun_m0 (vars : Int) (l' : List (List (Int × List Int × Unit) × List (Int × Int × Int × Int × Int × Unit) × Int × Int × Int × List Int × Unit)) (have' : List Int) (from' : List (List Int)) (v : List Int) (i : Int) : St := ⟨fresh, [(0, AV.v (Ty.int IntKind.i64) (Md.bor false true) vars), (1, AV.v (((Ty.int IntKind.i64).pair ((Ty.int IntKind.i64).sl.pair Ty.unit)).sl.pair (((Ty.int IntKind.i64).pair ((Ty.int IntKind.i64).pair ((Ty.int IntKind.i64).pair ((Ty.int IntKind.i64).pair ((Ty.int IntKind.i64).pair Ty.unit))))).sl.pair ((Ty.int IntKind.i64).pair ((Ty.int IntKind.i64).pair ((Ty.int IntKind.i64).pair ((Ty.int IntKind.i64).sl.pair Ty.unit)))))).sl (Md.bor true false) l'), (2, AV.v (Ty.int IntKind.i64).sl (Md.bor true false) have'), (8, AV.ow 500008 (Ty.int IntKind.i64).sl.sl (Md.own false (Md.bor false false)) from'), (9, AV.ow 500009 (Ty.int IntKind.i64).sl (Md.own false (Md.bor false false)) v), (10, AV.v (Ty.int IntKind.i64) (Md.bor false true) i), (25, AV.dead), (26, AV.dead), (89, AV.dead), (136, AV.dead)]⟩
noncomputable def ref_SingleRun_L2 (nf : Nat) : LC (List Int × Bool × Unit) := theL (findL tab (ref_SingleRun_phi nf) (fun _ F => iter nf F) ref_SingleRun_keep 2 0 (codeOf Try.f10) (fin tab [((Ty.int IntKind.i64).sl, Md.own false (Md.bor false false)), (Ty.bool, Md.bor false true)] (resL (none) Try.f10)) (fun _ _ => none) (fin tab [((Ty.int IntKind.i64).sl, Md.own false (Md.bor false false)), (Ty.bool, Md.bor false true)] (resL (none) Try.f10)))
def ref_SingleRun_m2 (l' : List (List (Int × List Int × Unit) × List (Int × Int × Int × Int × Int × Unit) × Int × Int × Int × List Int × Unit)) (from'2 : List (List Int)) (v2 : List Int) (at' : Int) (last : Int) (k' : Int) : St := ⟨fresh, [(1, AV.v (((Ty.int IntKind.i64).pair ((Ty.int IntKind.i64).sl.pair Ty.unit)).sl.pair (((Ty.int IntKind.i64).pair ((Ty.int IntKind.i64).pair ((Ty.int IntKind.i64).pair ((Ty.int IntKind.i64).pair ((Ty.int IntKind.i64).pair Ty.unit))))).sl.pair ((Ty.int IntKind.i64).pair ((Ty.int IntKind.i64).pair ((Ty.int IntKind.i64).pair ((Ty.int IntKind.i64).sl.pair Ty.unit)))))).sl (Md.bor true false) l'), (8, AV.ow 500008 (Ty.int IntKind.i64).sl.sl (Md.own false (Md.bor false false)) from'2), (9, AV.ow 500009 (Ty.int IntKind.i64).sl (Md.own false (Md.bor false false)) v2), (11, AV.v (Ty.int IntKind.i64) (Md.bor false true) at'), (12, AV.v (Ty.int IntKind.i64) (Md.bor false true) last), (13, AV.v (Ty.int IntKind.i64) (Md.bor false true) k'), (25, AV.dead), (26, AV.dead), (89, AV.dead), (136, AV.dead)]⟩
noncomputable def ref_SingleRun_L4 (nf : Nat) (G2 : St → Option (List Int × Bool × Unit)) : LC (List Int × Bool × Unit) := theL (findL tab (ref_SingleRun_phi nf) (fun _ F => iter nf F) ref_SingleRun_keep 4 2 (ref_SingleRun_L2 nf ).c (fun st => norm (ref_SingleRun_keep 2) st G2) (ref_SingleRun_L2 nf ).Kx (ref_SingleRun_L2 nf ).Kr)
def ref_SingleRun_m4 (l' : List (List (Int × List Int × Unit) × List (Int × Int × Int × Int × Int × Unit) × Int × Int × Int × List Int × Unit)) (at' : Int) (last : Int) (k' : Int) (from'3 : List (List Int)) (v3 : List Int) (w : List Int) (t52 : Int) : St := ⟨fresh, [(1, AV.v (((Ty.int IntKind.i64).pair ((Ty.int IntKind.i64).sl.pair Ty.unit)).sl.pair (((Ty.int IntKind.i64).pair ((Ty.int IntKind.i64).pair ((Ty.int IntKind.i64).pair ((Ty.int IntKind.i64).pair ((Ty.int IntKind.i64).pair Ty.unit))))).sl.pair ((Ty.int IntKind.i64).pair ((Ty.int IntKind.i64).pair ((Ty.int IntKind.i64).pair ((Ty.int IntKind.i64).sl.pair Ty.unit)))))).sl (Md.bor true false) l'), (8, AV.ow 500008 (Ty.int IntKind.i64).sl.sl (Md.own false (Md.bor false false)) from'3), (9, AV.ow 500009 (Ty.int IntKind.i64).sl (Md.own false (Md.bor false false)) v3), (11, AV.v (Ty.int IntKind.i64) (Md.bor false true) at'), (12, AV.v (Ty.int IntKind.i64) (Md.bor false true) last), (13, AV.v (Ty.int IntKind.i64) (Md.bor false true) k'), (14, AV.ow 500014 (Ty.int IntKind.i64).sl (Md.own false (Md.bor false false)) w), (25, AV.dead), (26, AV.dead), (45, AV.dead), (46, AV.v (((Ty.int IntKind.i64).pair ((Ty.int IntKind.i64).sl.pair Ty.unit)).sl.pair (((Ty.int IntKind.i64).pair ((Ty.int IntKind.i64).pair ((Ty.int IntKind.i64).pair ((Ty.int IntKind.i64).pair ((Ty.int IntKind.i64).pair Ty.unit))))).sl.pair ((Ty.int IntKind.i64).pair ((Ty.int IntKind.i64).pair ((Ty.int IntKind.i64).pair ((Ty.int IntKind.i64).sl.pair Ty.unit)))))).sl (Md.bor true false) l'), (48, AV.rop (((Ty.int IntKind.i64).pair ((Ty.int IntKind.i64).sl.pair Ty.unit)).sl.pair (((Ty.int IntKind.i64).pair ((Ty.int IntKind.i64).pair ((Ty.int IntKind.i64).pair ((Ty.int IntKind.i64).pair ((Ty.int IntKind.i64).pair Ty.unit))))).sl.pair ((Ty.int IntKind.i64).pair ((Ty.int IntKind.i64).pair ((Ty.int IntKind.i64).pair ((Ty.int IntKind.i64).sl.pair Ty.unit)))))) (Md.bor true false) (l'.getD at'.toNat ([], [], 0, 0, 0, [], ()))), (49, AV.rop ((Ty.int IntKind.i64).pair ((Ty.int IntKind.i64).sl.pair Ty.unit)).sl (Md.bor true false) (l'.getD at'.toNat ([], [], 0, 0, 0, [], ())).fst), (50, AV.v ((Ty.int IntKind.i64).pair ((Ty.int IntKind.i64).sl.pair Ty.unit)).sl (Md.bor true false) (l'.getD at'.toNat ([], [], 0, 0, 0, [], ())).fst), (51, AV.v (Ty.int IntKind.i64) (Md.bor false true) (↑(List.length (l'.getD at'.toNat ([], [], 0, 0, 0, [], ())).fst) : Int)), (52, AV.v (Ty.int IntKind.i64) (Md.bor false true) t52), (89, AV.dead), (136, AV.dead)]⟩
noncomputable def ref_SingleRun_L6 (nf : Nat) (G2 : St → Option (List Int × Bool × Unit)) (G4 : St → Option (List Int × Bool × Unit)) : LC (List Int × Bool × Unit) := theL (findL tab (ref_SingleRun_phi nf) (fun _ F => iter nf F) ref_SingleRun_keep 6 4 (ref_SingleRun_L4 nf G2).c (fun st => norm (ref_SingleRun_keep 4) st G4) (ref_SingleRun_L4 nf G2).Kx (ref_SingleRun_L4 nf G2).Kr)
def ref_SingleRun_m6 (l' : List (List (Int × List Int × Unit) × List (Int × Int × Int × Int × Int × Unit) × Int × Int × Int × List Int × Unit)) (at' : Int) (last : Int) (k' : Int) (t52 : Int) (from'3 : List (List Int)) (from'4 : List (List Int)) (v4 : List Int) (w2 : List Int) (j : Int × List Int × Unit) (t61 : Int) : St := ⟨fresh, [(1, AV.v (((Ty.int IntKind.i64).pair ((Ty.int IntKind.i64).sl.pair Ty.unit)).sl.pair (((Ty.int IntKind.i64).pair ((Ty.int IntKind.i64).pair ((Ty.int IntKind.i64).pair ((Ty.int IntKind.i64).pair ((Ty.int IntKind.i64).pair Ty.unit))))).sl.pair ((Ty.int IntKind.i64).pair ((Ty.int IntKind.i64).pair ((Ty.int IntKind.i64).pair ((Ty.int IntKind.i64).sl.pair Ty.unit)))))).sl (Md.bor true false) l'), (8, AV.ow 500008 (Ty.int IntKind.i64).sl.sl (Md.own false (Md.bor false false)) from'4), (9, AV.ow 500009 (Ty.int IntKind.i64).sl (Md.own false (Md.bor false false)) v4), (11, AV.v (Ty.int IntKind.i64) (Md.bor false true) at'), (12, AV.v (Ty.int IntKind.i64) (Md.bor false true) last), (13, AV.v (Ty.int IntKind.i64) (Md.bor false true) k'), (14, AV.ow 500014 (Ty.int IntKind.i64).sl (Md.own false (Md.bor false false)) w2), (16, AV.box 16 500016 ((Ty.int IntKind.i64).pair ((Ty.int IntKind.i64).sl.pair Ty.unit)) (Md.bor true false) j), (25, AV.dead), (26, AV.dead), (45, AV.dead), (46, AV.v (((Ty.int IntKind.i64).pair ((Ty.int IntKind.i64).sl.pair Ty.unit)).sl.pair (((Ty.int IntKind.i64).pair ((Ty.int IntKind.i64).pair ((Ty.int IntKind.i64).pair ((Ty.int IntKind.i64).pair ((Ty.int IntKind.i64).pair Ty.unit))))).sl.pair ((Ty.int IntKind.i64).pair ((Ty.int IntKind.i64).pair ((Ty.int IntKind.i64).pair ((Ty.int IntKind.i64).sl.pair Ty.unit)))))).sl (Md.bor true false) l'), (48, AV.rop (((Ty.int IntKind.i64).pair ((Ty.int IntKind.i64).sl.pair Ty.unit)).sl.pair (((Ty.int IntKind.i64).pair ((Ty.int IntKind.i64).pair ((Ty.int IntKind.i64).pair ((Ty.int IntKind.i64).pair ((Ty.int IntKind.i64).pair Ty.unit))))).sl.pair ((Ty.int IntKind.i64).pair ((Ty.int IntKind.i64).pair ((Ty.int IntKind.i64).pair ((Ty.int IntKind.i64).sl.pair Ty.unit)))))) (Md.bor true false) (l'.getD at'.toNat ([], [], 0, 0, 0, [], ()))), (49, AV.rop ((Ty.int IntKind.i64).pair ((Ty.int IntKind.i64).sl.pair Ty.unit)).sl (Md.bor true false) (l'.getD at'.toNat ([], [], 0, 0, 0, [], ())).fst), (50, AV.v ((Ty.int IntKind.i64).pair ((Ty.int IntKind.i64).sl.pair Ty.unit)).sl (Md.bor true false) (l'.getD at'.toNat ([], [], 0, 0, 0, [], ())).fst), (51, AV.v (Ty.int IntKind.i64) (Md.bor false true) (↑(List.length (l'.getD at'.toNat ([], [], 0, 0, 0, [], ())).fst) : Int)), (52, AV.v (Ty.int IntKind.i64) (Md.bor false true) t52), (56, AV.al 8 500008 []), (58, AV.pl 8 500008 [Stp.el at'.toNat]), (59, AV.v (Ty.int IntKind.i64).sl (Md.bor false false) (from'3.getD at'.toNat [])), (60, AV.v (Ty.int IntKind.i64) (Md.bor false true) (↑(List.length (from'3.getD at'.toNat [])) : Int)), (61, AV.v (Ty.int IntKind.i64) (Md.bor false true) t61), (89, AV.dead), (136, AV.dead)]⟩
noncomputable def ref_SingleRun_L8 (nf : Nat) (G2 : St → Option (List Int × Bool × Unit)) : LC (List Int × Bool × Unit) := theL (findL tab (ref_SingleRun_phi nf) (fun _ F => iter nf F) ref_SingleRun_keep 8 2 (ref_SingleRun_L2 nf ).c (fun st => norm (ref_SingleRun_keep 2) st G2) (ref_SingleRun_L2 nf ).Kx (ref_SingleRun_L2 nf ).Kr)
def ref_SingleRun_m8 (l' : List (List (Int × List Int × Unit) × List (Int × Int × Int × Int × Int × Unit) × Int × Int × Int × List Int × Unit)) (at' : Int) (v5 : List Int) (out : List Int) (t126 : Int) : St := ⟨fresh, [(1, AV.v (((Ty.int IntKind.i64).pair ((Ty.int IntKind.i64).sl.pair Ty.unit)).sl.pair (((Ty.int IntKind.i64).pair ((Ty.int IntKind.i64).pair ((Ty.int IntKind.i64).pair ((Ty.int IntKind.i64).pair ((Ty.int IntKind.i64).pair Ty.unit))))).sl.pair ((Ty.int IntKind.i64).pair ((Ty.int IntKind.i64).pair ((Ty.int IntKind.i64).pair ((Ty.int IntKind.i64).sl.pair Ty.unit)))))).sl (Md.bor true false) l'), (9, AV.ow 500009 (Ty.int IntKind.i64).sl (Md.own false (Md.bor false false)) v5), (19, AV.ow 500019 (Ty.int IntKind.i64).sl (Md.own false (Md.bor false false)) out), (26, AV.dead), (89, AV.dead), (120, AV.v (((Ty.int IntKind.i64).pair ((Ty.int IntKind.i64).sl.pair Ty.unit)).sl.pair (((Ty.int IntKind.i64).pair ((Ty.int IntKind.i64).pair ((Ty.int IntKind.i64).pair ((Ty.int IntKind.i64).pair ((Ty.int IntKind.i64).pair Ty.unit))))).sl.pair ((Ty.int IntKind.i64).pair ((Ty.int IntKind.i64).pair ((Ty.int IntKind.i64).pair ((Ty.int IntKind.i64).sl.pair Ty.unit)))))).sl (Md.bor true false) l'), (122, AV.rop (((Ty.int IntKind.i64).pair ((Ty.int IntKind.i64).sl.pair Ty.unit)).sl.pair (((Ty.int IntKind.i64).pair ((Ty.int IntKind.i64).pair ((Ty.int IntKind.i64).pair ((Ty.int IntKind.i64).pair ((Ty.int IntKind.i64).pair Ty.unit))))).sl.pair ((Ty.int IntKind.i64).pair ((Ty.int IntKind.i64).pair ((Ty.int IntKind.i64).pair ((Ty.int IntKind.i64).sl.pair Ty.unit)))))) (Md.bor true false) (l'.getD at'.toNat ([], [], 0, 0, 0, [], ()))), (123, AV.rop (Ty.int IntKind.i64).sl (Md.bor true false) (l'.getD at'.toNat ([], [], 0, 0, 0, [], ())).snd.snd.snd.snd.snd.fst), (124, AV.v (Ty.int IntKind.i64).sl (Md.bor true false) (l'.getD at'.toNat ([], [], 0, 0, 0, [], ())).snd.snd.snd.snd.snd.fst), (125, AV.v (Ty.int IntKind.i64) (Md.bor false true) (↑(List.length (l'.getD at'.toNat ([], [], 0, 0, 0, [], ())).snd.snd.snd.snd.snd.fst) : Int)), (126, AV.v (Ty.int IntKind.i64) (Md.bor false true) t126), (136, AV.dead)]⟩
theorem ref_SingleRun_h8 (nf : Nat) (G2 : St → Option (List Int × Bool × Unit)) (l' : List (List (Int × List Int × Unit) × List (Int × Int × Int × Int × Int × Unit) × Int × Int × Int × List Int × Unit)) (at' : Int) (fu : Nat) (v5 : List Int) (out : List Int) (t126 : Int) : iter (fu + 1) (LC.F tab (ref_SingleRun_phi nf) (fun _ F => iter nf F) ref_SingleRun_keep 8 (ref_SingleRun_L8 nf G2)) (ref_SingleRun_m8 l' at' v5 out t126) = ref_SingleRun_b8 nf  l' at' (fun from'2 v2 at' last k' => G2 (ref_SingleRun_m2 l' from'2 v2 at' last k')) (fun v5 out t126 => iter fu (LC.F tab (ref_SingleRun_phi nf) (fun _ F => iter nf F) ref_SingleRun_keep 8 (ref_SingleRun_L8 nf G2)) (ref_SingleRun_m8 l' at' v5 out t126)) v5 out t126 := by kernel_rfl
theorem ref_SingleRun_e8 (nf : Nat) (G2 : St → Option (List Int × Bool × Unit)) (l' : List (List (Int × List Int × Unit) × List (Int × Int × Int × Int × Int × Unit) × Int × Int × Int × List Int × Unit)) (at' : Int) : ∀ (fu : Nat) (v5 : List Int) (out : List Int) (t126 : Int), iter fu (LC.F tab (ref_SingleRun_phi nf) (fun _ F => iter nf F) ref_SingleRun_keep 8 (ref_SingleRun_L8 nf G2)) (ref_SingleRun_m8 l' at' v5 out t126) = ref_SingleRun_l8 nf l' at' (fun from'2 v2 at' last k' => G2 (ref_SingleRun_m2 l' from'2 v2 at' last k')) fu v5 out t126 := by
  intro fu
  induction fu with
  | zero => intros; rfl
  | succ fu ih =>
    intro v5 out t126
    rw [ref_SingleRun_h8 nf G2 l' at' fu v5 out t126]
    simp only [ih]
    rfl
theorem ref_SingleRun_h6 (nf : Nat) (G2 : St → Option (List Int × Bool × Unit)) (G4 : St → Option (List Int × Bool × Unit)) (l' : List (List (Int × List Int × Unit) × List (Int × Int × Int × Int × Int × Unit) × Int × Int × Int × List Int × Unit)) (at' : Int) (last : Int) (k' : Int) (t52 : Int) (from'3 : List (List Int)) (fu : Nat) (from'4 : List (List Int)) (v4 : List Int) (w2 : List Int) (j : Int × List Int × Unit) (t61 : Int) : iter (fu + 1) (LC.F tab (ref_SingleRun_phi nf) (fun _ F => iter nf F) ref_SingleRun_keep 6 (ref_SingleRun_L6 nf G2 G4)) (ref_SingleRun_m6 l' at' last k' t52 from'3 from'4 v4 w2 j t61) = ref_SingleRun_b6 nf  l' at' last k' t52 from'3 (fun from'3 v3 w t52 => G4 (ref_SingleRun_m4 l' at' last k' from'3 v3 w t52)) (fun from'2 v2 at' last k' => G2 (ref_SingleRun_m2 l' from'2 v2 at' last k')) (fun from'4 v4 w2 j t61 => iter fu (LC.F tab (ref_SingleRun_phi nf) (fun _ F => iter nf F) ref_SingleRun_keep 6 (ref_SingleRun_L6 nf G2 G4)) (ref_SingleRun_m6 l' at' last k' t52 from'3 from'4 v4 w2 j t61)) from'4 v4 w2 j t61 := by kernel_rfl
theorem ref_SingleRun_e6 (nf : Nat) (G2 : St → Option (List Int × Bool × Unit)) (G4 : St → Option (List Int × Bool × Unit)) (l' : List (List (Int × List Int × Unit) × List (Int × Int × Int × Int × Int × Unit) × Int × Int × Int × List Int × Unit)) (at' : Int) (last : Int) (k' : Int) (t52 : Int) (from'3 : List (List Int)) : ∀ (fu : Nat) (from'4 : List (List Int)) (v4 : List Int) (w2 : List Int) (j : Int × List Int × Unit) (t61 : Int), iter fu (LC.F tab (ref_SingleRun_phi nf) (fun _ F => iter nf F) ref_SingleRun_keep 6 (ref_SingleRun_L6 nf G2 G4)) (ref_SingleRun_m6 l' at' last k' t52 from'3 from'4 v4 w2 j t61) = ref_SingleRun_l6 nf l' at' last k' t52 from'3 (fun from'3 v3 w t52 => G4 (ref_SingleRun_m4 l' at' last k' from'3 v3 w t52)) (fun from'2 v2 at' last k' => G2 (ref_SingleRun_m2 l' from'2 v2 at' last k')) fu from'4 v4 w2 j t61 := by
  intro fu
  induction fu with
  | zero => intros; rfl
  | succ fu ih =>
    intro from'4 v4 w2 j t61
    rw [ref_SingleRun_h6 nf G2 G4 l' at' last k' t52 from'3 fu from'4 v4 w2 j t61]
    simp only [ih]
    rfl
theorem ref_SingleRun_h4 (nf : Nat) (G2 : St → Option (List Int × Bool × Unit)) (l' : List (List (Int × List Int × Unit) × List (Int × Int × Int × Int × Int × Unit) × Int × Int × Int × List Int × Unit)) (at' : Int) (last : Int) (k' : Int) (fu : Nat) (from'3 : List (List Int)) (v3 : List Int) (w : List Int) (t52 : Int) : iter (fu + 1) (LC.F tab (ref_SingleRun_phi nf) (fun _ F => iter nf F) ref_SingleRun_keep 4 (ref_SingleRun_L4 nf G2)) (ref_SingleRun_m4 l' at' last k' from'3 v3 w t52) = ref_SingleRun_b4 nf (fun _ _ _ _ p4 p5 v0 v1 v2 v3 v4 => iter nf (LC.F tab (ref_SingleRun_phi nf) (fun _ F => iter nf F) ref_SingleRun_keep 6 (ref_SingleRun_L6 nf G2 (iter fu (LC.F tab (ref_SingleRun_phi nf) (fun _ F => iter nf F) ref_SingleRun_keep 4 (ref_SingleRun_L4 nf G2))))) (ref_SingleRun_m6 l' at' last k' p4 p5 v0 v1 v2 v3 v4)) (fun _ _ v0 v1 v2 => iter nf (LC.F tab (ref_SingleRun_phi nf) (fun _ F => iter nf F) ref_SingleRun_keep 8 (ref_SingleRun_L8 nf G2)) (ref_SingleRun_m8 l' at' v0 v1 v2)) l' at' last k' (fun from'2 v2 at' last k' => G2 (ref_SingleRun_m2 l' from'2 v2 at' last k')) (fun from'3 v3 w t52 => iter fu (LC.F tab (ref_SingleRun_phi nf) (fun _ F => iter nf F) ref_SingleRun_keep 4 (ref_SingleRun_L4 nf G2)) (ref_SingleRun_m4 l' at' last k' from'3 v3 w t52)) from'3 v3 w t52 := by kernel_rfl
theorem ref_SingleRun_e4 (nf : Nat) (G2 : St → Option (List Int × Bool × Unit)) (l' : List (List (Int × List Int × Unit) × List (Int × Int × Int × Int × Int × Unit) × Int × Int × Int × List Int × Unit)) (at' : Int) (last : Int) (k' : Int) : ∀ (fu : Nat) (from'3 : List (List Int)) (v3 : List Int) (w : List Int) (t52 : Int), iter fu (LC.F tab (ref_SingleRun_phi nf) (fun _ F => iter nf F) ref_SingleRun_keep 4 (ref_SingleRun_L4 nf G2)) (ref_SingleRun_m4 l' at' last k' from'3 v3 w t52) = ref_SingleRun_l4 nf l' at' last k' (fun from'2 v2 at' last k' => G2 (ref_SingleRun_m2 l' from'2 v2 at' last k')) fu from'3 v3 w t52 := by
  intro fu
  induction fu with
  | zero => intros; rfl
  | succ fu ih =>
    intro from'3 v3 w t52
    rw [ref_SingleRun_h4 nf G2 l' at' last k' fu from'3 v3 w t52]
    simp only [ih, ref_SingleRun_e6, ref_SingleRun_e8]
    rfl
theorem ref_SingleRun_h2 (nf : Nat)  (l' : List (List (Int × List Int × Unit) × List (Int × Int × Int × Int × Int × Unit) × Int × Int × Int × List Int × Unit)) (fu : Nat) (from'2 : List (List Int)) (v2 : List Int) (at' : Int) (last : Int) (k' : Int) : iter (fu + 1) (LC.F tab (ref_SingleRun_phi nf) (fun _ F => iter nf F) ref_SingleRun_keep 2 (ref_SingleRun_L2 nf )) (ref_SingleRun_m2 l' from'2 v2 at' last k') = ref_SingleRun_b2 nf (fun _ p1 p2 p3 v0 v1 v2 v3 => iter nf (LC.F tab (ref_SingleRun_phi nf) (fun _ F => iter nf F) ref_SingleRun_keep 4 (ref_SingleRun_L4 nf (iter fu (LC.F tab (ref_SingleRun_phi nf) (fun _ F => iter nf F) ref_SingleRun_keep 2 (ref_SingleRun_L2 nf ))))) (ref_SingleRun_m4 l' p1 p2 p3 v0 v1 v2 v3)) l'  (fun from'2 v2 at' last k' => iter fu (LC.F tab (ref_SingleRun_phi nf) (fun _ F => iter nf F) ref_SingleRun_keep 2 (ref_SingleRun_L2 nf )) (ref_SingleRun_m2 l' from'2 v2 at' last k')) from'2 v2 at' last k' := by kernel_rfl
theorem ref_SingleRun_e2 (nf : Nat)  (l' : List (List (Int × List Int × Unit) × List (Int × Int × Int × Int × Int × Unit) × Int × Int × Int × List Int × Unit)) : ∀ (fu : Nat) (from'2 : List (List Int)) (v2 : List Int) (at' : Int) (last : Int) (k' : Int), iter fu (LC.F tab (ref_SingleRun_phi nf) (fun _ F => iter nf F) ref_SingleRun_keep 2 (ref_SingleRun_L2 nf )) (ref_SingleRun_m2 l' from'2 v2 at' last k') = ref_SingleRun_l2 nf l'  fu from'2 v2 at' last k' := by
  intro fu
  induction fu with
  | zero => intros; rfl
  | succ fu ih =>
    intro from'2 v2 at' last k'
    rw [ref_SingleRun_h2 nf  l' fu from'2 v2 at' last k']
    simp only [ih, ref_SingleRun_e4]
    rfl
theorem ref_SingleRun_h0 (nf : Nat)  (vars : Int) (l' : List (List (Int × List Int × Unit) × List (Int × Int × Int × Int × Int × Unit) × Int × Int × Int × List Int × Unit)) (have' : List Int) (fu : Nat) (from' : List (List Int)) (v : List Int) (i : Int) : iter (fu + 1) (LC.F tab (ref_SingleRun_phi nf) (fun _ F => iter nf F) ref_SingleRun_keep 0 (ref_SingleRun_L0 nf )) (ref_SingleRun_m0 vars l' have' from' v i) = ref_SingleRun_b0 nf (fun _ v0 v1 v2 v3 v4 => iter nf (LC.F tab (ref_SingleRun_phi nf) (fun _ F => iter nf F) ref_SingleRun_keep 2 (ref_SingleRun_L2 nf )) (ref_SingleRun_m2 l' v0 v1 v2 v3 v4)) vars l' have'  (fun from' v i => iter fu (LC.F tab (ref_SingleRun_phi nf) (fun _ F => iter nf F) ref_SingleRun_keep 0 (ref_SingleRun_L0 nf )) (ref_SingleRun_m0 vars l' have' from' v i)) from' v i := by kernel_rfl
theorem ref_SingleRun_e0 (nf : Nat)  (vars : Int) (l' : List (List (Int × List Int × Unit) × List (Int × Int × Int × Int × Int × Unit) × Int × Int × Int × List Int × Unit)) (have' : List Int) : ∀ (fu : Nat) (from' : List (List Int)) (v : List Int) (i : Int), iter fu (LC.F tab (ref_SingleRun_phi nf) (fun _ F => iter nf F) ref_SingleRun_keep 0 (ref_SingleRun_L0 nf )) (ref_SingleRun_m0 vars l' have' from' v i) = ref_SingleRun_l0 nf vars l' have'  fu from' v i := by
  intro fu
  induction fu with
  | zero => intros; rfl
  | succ fu ih =>
    intro from' v i
    rw [ref_SingleRun_h0 nf  vars l' have' fu from' v i]
    simp only [ih, ref_SingleRun_e2]
    rfl
theorem ref_SingleRun_eq (nf : Nat) (vars : Int) (l' : List (List (Int × List Int × Unit) × List (Int × Int × Int × Int × Int × Unit) × Int × Int × Int × List Int × Unit)) (have' : List Int) : runF tab (ref_SingleRun_phi nf) ref_SingleRun_keep nf [PT.val (Ty.int IntKind.i64) (Md.bor true false), PT.val (((Ty.int IntKind.i64).pair ((Ty.int IntKind.i64).sl.pair Ty.unit)).sl.pair (((Ty.int IntKind.i64).pair ((Ty.int IntKind.i64).pair ((Ty.int IntKind.i64).pair ((Ty.int IntKind.i64).pair ((Ty.int IntKind.i64).pair Ty.unit))))).sl.pair ((Ty.int IntKind.i64).pair ((Ty.int IntKind.i64).pair ((Ty.int IntKind.i64).pair ((Ty.int IntKind.i64).sl.pair Ty.unit)))))).sl (Md.bor true false), PT.val (Ty.int IntKind.i64).sl (Md.bor true false)] [((Ty.int IntKind.i64).sl, Md.own false (Md.bor false false)), (Ty.bool, Md.bor false true)] (resL (none) Try.f10) (codeOf Try.f10) ⟨vars, l', have', ()⟩ = ref_SingleRun_f nf vars l' have' := by
  have h : runF tab (ref_SingleRun_phi nf) ref_SingleRun_keep nf [PT.val (Ty.int IntKind.i64) (Md.bor true false), PT.val (((Ty.int IntKind.i64).pair ((Ty.int IntKind.i64).sl.pair Ty.unit)).sl.pair (((Ty.int IntKind.i64).pair ((Ty.int IntKind.i64).pair ((Ty.int IntKind.i64).pair ((Ty.int IntKind.i64).pair ((Ty.int IntKind.i64).pair Ty.unit))))).sl.pair ((Ty.int IntKind.i64).pair ((Ty.int IntKind.i64).pair ((Ty.int IntKind.i64).pair ((Ty.int IntKind.i64).sl.pair Ty.unit)))))).sl (Md.bor true false), PT.val (Ty.int IntKind.i64).sl (Md.bor true false)] [((Ty.int IntKind.i64).sl, Md.own false (Md.bor false false)), (Ty.bool, Md.bor false true)] (resL (none) Try.f10) (codeOf Try.f10) ⟨vars, l', have', ()⟩ = ref_SingleRun_p nf (fun p0 p1 p2 v0 v1 v2 => iter nf (LC.F tab (ref_SingleRun_phi nf) (fun _ F => iter nf F) ref_SingleRun_keep 0 (ref_SingleRun_L0 nf)) (ref_SingleRun_m0 p0 p1 p2 v0 v1 v2)) vars l' have' := by kernel_rfl
  rw [h]
  simp only [ref_SingleRun_e0]
  rfl
def ref_SingleRun_F (nf : Nat) (x : denPs [.val (.int .i64) (.bor true false), .val (.sl (.pair (.sl (.pair (.int .i64) (.pair (.sl (.int .i64)) (.unit)))) (.pair (.sl (.pair (.int .i64) (.pair (.int .i64) (.pair (.int .i64) (.pair (.int .i64) (.pair (.int .i64) (.unit))))))) (.pair (.int .i64) (.pair (.int .i64) (.pair (.int .i64) (.pair (.sl (.int .i64)) (.unit)))))))) (.bor true false), .val (.sl (.int .i64)) (.bor true false)]) : Option (denL [(.sl (.int .i64), .own false (.bor false false)), (.bool, .bor false true)]) := ref_SingleRun_f nf x.1 x.2.1 x.2.2.1
def ref_SingleRun_C (nf : Nat) : Contract := ⟨[.val (.int .i64) (.bor true false), .val (.sl (.pair (.sl (.pair (.int .i64) (.pair (.sl (.int .i64)) (.unit)))) (.pair (.sl (.pair (.int .i64) (.pair (.int .i64) (.pair (.int .i64) (.pair (.int .i64) (.pair (.int .i64) (.unit))))))) (.pair (.int .i64) (.pair (.int .i64) (.pair (.int .i64) (.pair (.sl (.int .i64)) (.unit)))))))) (.bor true false), .val (.sl (.int .i64)) (.bor true false)], [(.sl (.int .i64), .own false (.bor false false)), (.bool, .bor false true)], ref_SingleRun_F nf, none⟩
theorem ref_SingleRun_ok : FnOK Try.prog 10 := ⟨Try.f10, codeOf Try.f10, Try.func10, by kernel_rfl, by kernel_rfl⟩
theorem ref_SingleRun_holds (nf : Nat) : Contract.Holds Try.prog 10 (ref_SingleRun_C nf) :=
  fn_holds (Φ := ref_SingleRun_phi nf) (keep := ref_SingleRun_keep) (n := nf) ⟨tabs.1, tabs.2, (ctx_cons ref_Froms_ok (ref_Froms_holds nf) (ctx_cons ref_Nexts_ok (ref_Nexts_holds nf) (ctx_cons ref_Bare_ok (ref_Bare_holds nf) (ctx_cons ref_Doing_ok (ref_Doing_holds nf) ctx_nil)))), mixed⟩ (fn := Try.f10) ⟨Try.func10, by kernel_rfl, by kernel_rfl, by kernel_rfl⟩ (fun x => ref_SingleRun_eq nf x.1 x.2.1 x.2.2.1)

/-! codemason codemasonlaw.SingleRuns -/
def law_SingleRuns_phi (nf : Nat) : Nat → Option Contract := lookC [(7, ref_SingleCheck_C nf), (8, single_Run_C nf), (9, ref_HaveCheck_C nf), (10, ref_SingleRun_C nf), (11, ref_Ints_C nf)]
def law_SingleRuns_keep : Nat → List Nat := lookK []
def law_SingleRuns_p (nf : Nat)  (vars : Int) (l' : List (List (Int × List Int × Unit) × List (Int × Int × Int × Int × Int × Unit) × Int × Int × Int × List Int × Unit)) (have' : List Int) : Option (Bool × Unit) :=
  Option.bind (single_Run_f nf vars l' have') fun r =>
  Option.bind (ref_SingleCheck_f nf vars l') fun r2 =>
  bif r2.fst == 0 then
    Option.bind (ref_HaveCheck_f nf vars have') fun r3 =>
    bif r3.fst == 0 then
      Option.bind (ref_SingleRun_f nf vars l' have') fun r4 =>
      bif !r4.snd.fst then
        bif r.snd.fst == 7 then
          Option.bind (ref_Ints_f nf r.fst r4.fst) fun r5 =>
          some ((r5.fst, ()))
        else
          some ((false, ()))
      else
        bif r.snd.fst == r3.fst then
          Option.bind (ref_Ints_f nf r.fst r4.fst) fun r6 =>
          some ((r6.fst, ()))
        else
          some ((false, ()))
    else
      bif r.snd.fst == r3.fst then
        Option.bind (ref_Ints_f nf r.fst ([])) fun r7 =>
        some ((r7.fst, ()))
      else
        some ((false, ()))
  else
    bif r2.fst == 0 then
      Option.bind (ref_SingleRun_f nf vars l' have') fun r8 =>
      bif !r8.snd.fst then
        bif r.snd.fst == 7 then
          Option.bind (ref_Ints_f nf r.fst r8.fst) fun r9 =>
          some ((r9.fst, ()))
        else
          some ((false, ()))
      else
        bif r.snd.fst == r2.fst then
          Option.bind (ref_Ints_f nf r.fst r8.fst) fun r10 =>
          some ((r10.fst, ()))
        else
          some ((false, ()))
    else
      bif r.snd.fst == r2.fst then
        Option.bind (ref_Ints_f nf r.fst ([])) fun r11 =>
        some ((r11.fst, ()))
      else
        some ((false, ()))
def law_SingleRuns_f (nf : Nat) (vars : Int) (l' : List (List (Int × List Int × Unit) × List (Int × Int × Int × Int × Int × Unit) × Int × Int × Int × List Int × Unit)) (have' : List Int) : Option (Bool × Unit) := law_SingleRuns_p nf  vars l' have'
theorem law_SingleRuns_eq (nf : Nat) (vars : Int) (l' : List (List (Int × List Int × Unit) × List (Int × Int × Int × Int × Int × Unit) × Int × Int × Int × List Int × Unit)) (have' : List Int) : runF tab (law_SingleRuns_phi nf) law_SingleRuns_keep nf [PT.val (Ty.int IntKind.i64) (Md.bor true false), PT.val (((Ty.int IntKind.i64).pair ((Ty.int IntKind.i64).sl.pair Ty.unit)).sl.pair (((Ty.int IntKind.i64).pair ((Ty.int IntKind.i64).pair ((Ty.int IntKind.i64).pair ((Ty.int IntKind.i64).pair ((Ty.int IntKind.i64).pair Ty.unit))))).sl.pair ((Ty.int IntKind.i64).pair ((Ty.int IntKind.i64).pair ((Ty.int IntKind.i64).pair ((Ty.int IntKind.i64).sl.pair Ty.unit)))))).sl (Md.bor true false), PT.val (Ty.int IntKind.i64).sl (Md.bor true false)] [(Ty.bool, Md.bor false true)] (resL (none) Try.f4) (codeOf Try.f4) ⟨vars, l', have', ()⟩ = law_SingleRuns_f nf vars l' have' := by
  have h : runF tab (law_SingleRuns_phi nf) law_SingleRuns_keep nf [PT.val (Ty.int IntKind.i64) (Md.bor true false), PT.val (((Ty.int IntKind.i64).pair ((Ty.int IntKind.i64).sl.pair Ty.unit)).sl.pair (((Ty.int IntKind.i64).pair ((Ty.int IntKind.i64).pair ((Ty.int IntKind.i64).pair ((Ty.int IntKind.i64).pair ((Ty.int IntKind.i64).pair Ty.unit))))).sl.pair ((Ty.int IntKind.i64).pair ((Ty.int IntKind.i64).pair ((Ty.int IntKind.i64).pair ((Ty.int IntKind.i64).sl.pair Ty.unit)))))).sl (Md.bor true false), PT.val (Ty.int IntKind.i64).sl (Md.bor true false)] [(Ty.bool, Md.bor false true)] (resL (none) Try.f4) (codeOf Try.f4) ⟨vars, l', have', ()⟩ = law_SingleRuns_p nf  vars l' have' := by kernel_rfl
  exact h
def law_SingleRuns_F (nf : Nat) (x : denPs [.val (.int .i64) (.bor true false), .val (.sl (.pair (.sl (.pair (.int .i64) (.pair (.sl (.int .i64)) (.unit)))) (.pair (.sl (.pair (.int .i64) (.pair (.int .i64) (.pair (.int .i64) (.pair (.int .i64) (.pair (.int .i64) (.unit))))))) (.pair (.int .i64) (.pair (.int .i64) (.pair (.int .i64) (.pair (.sl (.int .i64)) (.unit)))))))) (.bor true false), .val (.sl (.int .i64)) (.bor true false)]) : Option (denL [(.bool, .bor false true)]) := law_SingleRuns_f nf x.1 x.2.1 x.2.2.1
def law_SingleRuns_C (nf : Nat) : Contract := ⟨[.val (.int .i64) (.bor true false), .val (.sl (.pair (.sl (.pair (.int .i64) (.pair (.sl (.int .i64)) (.unit)))) (.pair (.sl (.pair (.int .i64) (.pair (.int .i64) (.pair (.int .i64) (.pair (.int .i64) (.pair (.int .i64) (.unit))))))) (.pair (.int .i64) (.pair (.int .i64) (.pair (.int .i64) (.pair (.sl (.int .i64)) (.unit)))))))) (.bor true false), .val (.sl (.int .i64)) (.bor true false)], [(.bool, .bor false true)], law_SingleRuns_F nf, none⟩
theorem law_SingleRuns_ok : FnOK Try.prog 4 := ⟨Try.f4, codeOf Try.f4, Try.func4, by kernel_rfl, by kernel_rfl⟩
theorem law_SingleRuns_holds (nf : Nat) : Contract.Holds Try.prog 4 (law_SingleRuns_C nf) :=
  fn_holds (Φ := law_SingleRuns_phi nf) (keep := law_SingleRuns_keep) (n := nf) ⟨tabs.1, tabs.2, (ctx_cons ref_SingleCheck_ok (ref_SingleCheck_holds nf) (ctx_cons single_Run_ok (single_Run_holds nf) (ctx_cons ref_HaveCheck_ok (ref_HaveCheck_holds nf) (ctx_cons ref_SingleRun_ok (ref_SingleRun_holds nf) (ctx_cons ref_Ints_ok (ref_Ints_holds nf) ctx_nil))))), mixed⟩ (fn := Try.f4) ⟨Try.func4, by kernel_rfl, by kernel_rfl, by kernel_rfl⟩ (fun x => law_SingleRuns_eq nf x.1 x.2.1 x.2.2.1)
end Go.Proofs.Ytfbiknjadkpamaa.S
