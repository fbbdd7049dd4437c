/- The functions of the code, as plain functions, and the theorems that say so: made by a program of this proof's own. -/
import Derived.Test.YtccbcbhiblohgaaFn1
import Derived.Test.YtccbcbhiblohgaaChecked
namespace Go.Proofs.Ytccbcbhiblohgaa.S
open Go Go.Ab
noncomputable section

/-! codemason rule.Rules -/
def rule_Rules_phi (nf : Nat) : Nat → Option Contract := lookC [(59, way_From_C nf)]
def rule_Rules_keep : Nat → List Nat := lookK [(6, [0, 3, 4, 6, 7, 8, 16, 35, 36, 37, 40, 41, 47, 48, 49]), (4, [0, 3, 4, 6, 16, 35, 36, 37]), (2, [0, 3, 4, 6, 16]), (0, [0, 3, 4, 16, 18, 19])]
def rule_Rules_b0 (nf : Nat) (l2 : List (List Int) → Int × Unit → List Int → Bool → Option (List Int × Unit)) (next : List (List Int)) (r : Int × Unit) (g0 : List Int → Int → Option (List Int × Unit)) (rules : List Int) (t19 : Int) : Option (List Int × Unit) :=
  bif decide (t19 < (↑(List.replicate (↑next.length : Int).toNat (0 : Int)).length : Int)) then
    bif decide (0 ≤ t19) then
      bif IntKind.u32.wrap (↑(BitVec.ofInt IntKind.u32.bits (shrI IntKind.u32 r.fst t19) &&& BitVec.ofInt IntKind.u32.bits 1).toNat : Int) == 1 then
        bif inb t19 rules.length then
          g0 (rules.set t19.toNat r.fst) (IntKind.i64.wrap (t19 + 1))
        else
          none
      else
        g0 rules (IntKind.i64.wrap (t19 + 1))
    else
      none
  else
    bif inb 0 rules.length then
      l2 next r (rules.set 0 1) true
    else
      none
def rule_Rules_b2 (nf : Nat) (l4 : List (List Int) → Int × Unit → List Int → Bool → Int → Option (List Int × Unit)) (next : List (List Int)) (r : Int × Unit) (g2 : List Int → Bool → Option (List Int × Unit)) (rules2 : List Int) (more : Bool) : Option (List Int × Unit) :=
  bif more then
    l4 next r rules2 false 0
  else
    some ((rules2, ()))
def rule_Rules_b4 (nf : Nat) (l6 : List (List Int) → Int × Unit → Int → List Int → Bool → Int → Option (List Int × Unit)) (next : List (List Int)) (r : Int × Unit) (g2 : List Int → Bool → Option (List Int × Unit)) (g4 : List Int → Bool → Int → Option (List Int × Unit)) (rules3 : List Int) (more2 : Bool) (t37 : Int) : Option (List Int × Unit) :=
  bif decide (t37 < (↑next.length : Int)) then
    bif inb t37 next.length then
      bif decide (0 ≤ t37) then
        bif IntKind.u32.wrap (↑(BitVec.ofInt IntKind.u32.bits (shrI IntKind.u32 r.fst t37) &&& BitVec.ofInt IntKind.u32.bits 1).toNat : Int) == 0 then
          g4 rules3 more2 (IntKind.i64.wrap (t37 + 1))
        else
          l6 next r t37 rules3 more2 0
      else
        none
    else
      none
  else
    g2 rules3 more2
def rule_Rules_b6 (nf : Nat) (next : List (List Int)) (r : Int × Unit) (t37 : Int) (g4 : List Int → Bool → Int → Option (List Int × Unit)) (g2 : List Int → Bool → Option (List Int × Unit)) (g6 : List Int → Bool → Int → Option (List Int × Unit)) (rules4 : List Int) (more3 : Bool) (t49 : Int) : Option (List Int × Unit) :=
  bif decide (t49 < (↑(List.length (next.getD t37.toNat [])) : Int)) then
    bif inb t49 (List.length (next.getD t37.toNat [])) then
      bif inb (List.getD (next.getD t37.toNat []) t49.toNat 0) rules4.length then
        bif inb t37 rules4.length then
          bif decide (0 ≤ List.getD (next.getD t37.toNat []) t49.toNat 0) then
            bif inb (List.getD (next.getD t37.toNat []) t49.toNat 0) rules4.length then
              bif IntKind.u32.wrap (↑(BitVec.ofInt IntKind.u32.bits (rules4.getD (Int.toNat (List.getD (next.getD t37.toNat []) t49.toNat 0)) 0) &&& BitVec.ofInt IntKind.u32.bits (IntKind.u32.wrap (↑(BitVec.ofInt IntKind.u32.bits (rules4.getD t37.toNat 0) ||| BitVec.ofInt IntKind.u32.bits (shlI IntKind.u32 1 (List.getD (next.getD t37.toNat []) t49.toNat 0))).toNat : Int))).toNat : Int) != rules4.getD (Int.toNat (List.getD (next.getD t37.toNat []) t49.toNat 0)) 0 then
                bif inb (List.getD (next.getD t37.toNat []) t49.toNat 0) rules4.length then
                  g6 (rules4.set (Int.toNat (List.getD (next.getD t37.toNat []) t49.toNat 0)) (IntKind.u32.wrap (↑(BitVec.ofInt IntKind.u32.bits (rules4.getD (Int.toNat (List.getD (next.getD t37.toNat []) t49.toNat 0)) 0) &&& BitVec.ofInt IntKind.u32.bits (IntKind.u32.wrap (↑(BitVec.ofInt IntKind.u32.bits (rules4.getD t37.toNat 0) ||| BitVec.ofInt IntKind.u32.bits (shlI IntKind.u32 1 (List.getD (next.getD t37.toNat []) t49.toNat 0))).toNat : Int))).toNat : Int))) true (IntKind.i64.wrap (t49 + 1))
                else
                  none
              else
                g6 rules4 more3 (IntKind.i64.wrap (t49 + 1))
            else
              none
          else
            none
        else
          none
      else
        none
    else
      none
  else
    g4 rules4 more3 (IntKind.i64.wrap (t37 + 1))
def rule_Rules_p (nf : Nat) (l0 : List (List Int) → Int × Unit → List Int → Int → Option (List Int × Unit)) (next : List (List Int)) : Option (List Int × Unit) :=
  Option.bind (way_From_f nf next 0 (-1)) fun r =>
  bif decide (0 ≤ (↑next.length : Int)) && decide ((↑next.length : Int) ≤ (↑next.length : Int)) && decide ((↑next.length : Int) ≤ (↑lim : Int)) then
    l0 next r (List.replicate (↑next.length : Int).toNat 0) 0
  else
    none
def rule_Rules_l6 (nf : Nat) (next : List (List Int)) (r : Int × Unit) (t37 : Int) (g4 : List Int → Bool → Int → Option (List Int × Unit)) (g2 : List Int → Bool → Option (List Int × Unit)) : Nat → List Int → Bool → Int → Option (List Int × Unit)
  | 0, _, _, _ => none
  | fu + 1, rules4, more3, t49 => rule_Rules_b6 nf  next r t37 g4 g2 (rule_Rules_l6 nf next r t37 g4 g2 fu) rules4 more3 t49
def rule_Rules_l4 (nf : Nat) (next : List (List Int)) (r : Int × Unit) (g2 : List Int → Bool → Option (List Int × Unit)) : Nat → List Int → Bool → Int → Option (List Int × Unit)
  | 0, _, _, _ => none
  | fu + 1, rules3, more2, t37 => rule_Rules_b4 nf (fun _ _ p2 v0 v1 v2 => rule_Rules_l6 nf next r p2 (fun rules3 more2 t37 => rule_Rules_l4 nf next r g2 fu rules3 more2 t37) g2 nf v0 v1 v2) next r g2 (rule_Rules_l4 nf next r g2 fu) rules3 more2 t37
def rule_Rules_l2 (nf : Nat) (next : List (List Int)) (r : Int × Unit) : Nat → List Int → Bool → Option (List Int × Unit)
  | 0, _, _ => none
  | fu + 1, rules2, more => rule_Rules_b2 nf (fun _ _ v0 v1 v2 => rule_Rules_l4 nf next r (fun rules2 more => rule_Rules_l2 nf next r  fu rules2 more) nf v0 v1 v2) next r  (rule_Rules_l2 nf next r  fu) rules2 more
def rule_Rules_l0 (nf : Nat) (next : List (List Int)) (r : Int × Unit) : Nat → List Int → Int → Option (List Int × Unit)
  | 0, _, _ => none
  | fu + 1, rules, t19 => rule_Rules_b0 nf (fun _ _ v0 v1 => rule_Rules_l2 nf next r  nf v0 v1) next r  (rule_Rules_l0 nf next r  fu) rules t19
def rule_Rules_f (nf : Nat) (next : List (List Int)) : Option (List Int × Unit) := rule_Rules_p nf (fun p0 p1 v0 v1 => rule_Rules_l0 nf p0 p1 nf v0 v1) next
noncomputable def rule_Rules_L0 (nf : Nat) : LC (List Int × Unit) := theL (findL tab (rule_Rules_phi nf) (fun _ F => iter nf F) rule_Rules_keep 0 0 (codeOf Try.f65) (fin tab [((Ty.int IntKind.u32).sl, Md.own false (Md.bor false false))] (resL (none) Try.f65)) (fun _ _ => none) (fin tab [((Ty.int IntKind.u32).sl, Md.own false (Md.bor false false))] (resL (none) Try.f65)))
def rule_Rules_m0 (next : List (List Int)) (r : Int × Unit) (rules : List Int) (t19 : Int) : St := ⟨fresh, [(0, AV.v (Ty.int IntKind.i64).sl.sl (Md.bor true false) next), (3, AV.v (Ty.int IntKind.u32) (Md.bor false true) r.fst), (4, AV.ow 500004 (Ty.int IntKind.u32).sl (Md.own false (Md.bor false false)) rules), (16, AV.dead), (18, AV.v (Ty.int IntKind.i64) (Md.bor false true) (↑(List.replicate (↑next.length : Int).toNat (0 : Int)).length : Int)), (19, AV.v (Ty.int IntKind.i64) (Md.bor false true) t19)]⟩
noncomputable def rule_Rules_L2 (nf : Nat) : LC (List Int × Unit) := theL (findL tab (rule_Rules_phi nf) (fun _ F => iter nf F) rule_Rules_keep 2 0 (codeOf Try.f65) (fin tab [((Ty.int IntKind.u32).sl, Md.own false (Md.bor false false))] (resL (none) Try.f65)) (fun _ _ => none) (fin tab [((Ty.int IntKind.u32).sl, Md.own false (Md.bor false false))] (resL (none) Try.f65)))
def rule_Rules_m2 (next : List (List Int)) (r : Int × Unit) (rules2 : List Int) (more : Bool) : St := ⟨fresh, [(0, AV.v (Ty.int IntKind.i64).sl.sl (Md.bor true false) next), (3, AV.v (Ty.int IntKind.u32) (Md.bor false true) r.fst), (4, AV.ow 500004 (Ty.int IntKind.u32).sl (Md.own false (Md.bor false false)) rules2), (6, AV.v Ty.bool (Md.bor false true) more), (16, AV.dead)]⟩
noncomputable def rule_Rules_L4 (nf : Nat) (G2 : St → Option (List Int × Unit)) : LC (List Int × Unit) := theL (findL tab (rule_Rules_phi nf) (fun _ F => iter nf F) rule_Rules_keep 4 2 (rule_Rules_L2 nf ).c (fun st => norm (rule_Rules_keep 2) st G2) (rule_Rules_L2 nf ).Kx (rule_Rules_L2 nf ).Kr)
def rule_Rules_m4 (next : List (List Int)) (r : Int × Unit) (rules3 : List Int) (more2 : Bool) (t37 : Int) : St := ⟨fresh, [(0, AV.v (Ty.int IntKind.i64).sl.sl (Md.bor true false) next), (3, AV.v (Ty.int IntKind.u32) (Md.bor false true) r.fst), (4, AV.ow 500004 (Ty.int IntKind.u32).sl (Md.own false (Md.bor false false)) rules3), (6, AV.v Ty.bool (Md.bor false true) more2), (16, AV.dead), (35, AV.v (Ty.int IntKind.i64).sl.sl (Md.bor true false) next), (36, AV.v (Ty.int IntKind.i64) (Md.bor false true) (↑next.length : Int)), (37, AV.v (Ty.int IntKind.i64) (Md.bor false true) t37)]⟩
noncomputable def rule_Rules_L6 (nf : Nat) (G2 : St → Option (List Int × Unit)) (G4 : St → Option (List Int × Unit)) : LC (List Int × Unit) := theL (findL tab (rule_Rules_phi nf) (fun _ F => iter nf F) rule_Rules_keep 6 4 (rule_Rules_L4 nf G2).c (fun st => norm (rule_Rules_keep 4) st G4) (rule_Rules_L4 nf G2).Kx (rule_Rules_L4 nf G2).Kr)
def rule_Rules_m6 (next : List (List Int)) (r : Int × Unit) (t37 : Int) (rules4 : List Int) (more3 : Bool) (t49 : Int) : St := ⟨fresh, [(0, AV.v (Ty.int IntKind.i64).sl.sl (Md.bor true false) next), (3, AV.v (Ty.int IntKind.u32) (Md.bor false true) r.fst), (4, AV.ow 500004 (Ty.int IntKind.u32).sl (Md.own false (Md.bor false false)) rules4), (6, AV.v Ty.bool (Md.bor false true) more3), (7, AV.v (Ty.int IntKind.i64) (Md.bor false true) t37), (8, AV.v (Ty.int IntKind.i64).sl (Md.bor true false) (next.getD t37.toNat [])), (16, AV.dead), (35, AV.v (Ty.int IntKind.i64).sl.sl (Md.bor true false) next), (36, AV.v (Ty.int IntKind.i64) (Md.bor false true) (↑next.length : Int)), (37, AV.v (Ty.int IntKind.i64) (Md.bor false true) t37), (40, AV.rop (Ty.int IntKind.i64).sl (Md.bor true false) (next.getD t37.toNat [])), (41, AV.v (Ty.int IntKind.i64).sl (Md.bor true false) (next.getD t37.toNat [])), (47, AV.v (Ty.int IntKind.i64).sl (Md.bor true false) (next.getD t37.toNat [])), (48, AV.v (Ty.int IntKind.i64) (Md.bor false true) (↑(List.length (next.getD t37.toNat [])) : Int)), (49, AV.v (Ty.int IntKind.i64) (Md.bor false true) t49)]⟩
theorem rule_Rules_h6 (nf : Nat) (G2 : St → Option (List Int × Unit)) (G4 : St → Option (List Int × Unit)) (next : List (List Int)) (r : Int × Unit) (t37 : Int) (fu : Nat) (rules4 : List Int) (more3 : Bool) (t49 : Int) : iter (fu + 1) (LC.F tab (rule_Rules_phi nf) (fun _ F => iter nf F) rule_Rules_keep 6 (rule_Rules_L6 nf G2 G4)) (rule_Rules_m6 next r t37 rules4 more3 t49) = rule_Rules_b6 nf  next r t37 (fun rules3 more2 t37 => G4 (rule_Rules_m4 next r rules3 more2 t37)) (fun rules2 more => G2 (rule_Rules_m2 next r rules2 more)) (fun rules4 more3 t49 => iter fu (LC.F tab (rule_Rules_phi nf) (fun _ F => iter nf F) rule_Rules_keep 6 (rule_Rules_L6 nf G2 G4)) (rule_Rules_m6 next r t37 rules4 more3 t49)) rules4 more3 t49 := by kernel_rfl
theorem rule_Rules_e6 (nf : Nat) (G2 : St → Option (List Int × Unit)) (G4 : St → Option (List Int × Unit)) (next : List (List Int)) (r : Int × Unit) (t37 : Int) : ∀ (fu : Nat) (rules4 : List Int) (more3 : Bool) (t49 : Int), iter fu (LC.F tab (rule_Rules_phi nf) (fun _ F => iter nf F) rule_Rules_keep 6 (rule_Rules_L6 nf G2 G4)) (rule_Rules_m6 next r t37 rules4 more3 t49) = rule_Rules_l6 nf next r t37 (fun rules3 more2 t37 => G4 (rule_Rules_m4 next r rules3 more2 t37)) (fun rules2 more => G2 (rule_Rules_m2 next r rules2 more)) fu rules4 more3 t49 := by
  intro fu
  induction fu with
  | zero => intros; rfl
  | succ fu ih =>
    intro rules4 more3 t49
    rw [rule_Rules_h6 nf G2 G4 next r t37 fu rules4 more3 t49]
    simp only [ih]
    rfl
theorem rule_Rules_h4 (nf : Nat) (G2 : St → Option (List Int × Unit)) (next : List (List Int)) (r : Int × Unit) (fu : Nat) (rules3 : List Int) (more2 : Bool) (t37 : Int) : iter (fu + 1) (LC.F tab (rule_Rules_phi nf) (fun _ F => iter nf F) rule_Rules_keep 4 (rule_Rules_L4 nf G2)) (rule_Rules_m4 next r rules3 more2 t37) = rule_Rules_b4 nf (fun _ _ p2 v0 v1 v2 => iter nf (LC.F tab (rule_Rules_phi nf) (fun _ F => iter nf F) rule_Rules_keep 6 (rule_Rules_L6 nf G2 (iter fu (LC.F tab (rule_Rules_phi nf) (fun _ F => iter nf F) rule_Rules_keep 4 (rule_Rules_L4 nf G2))))) (rule_Rules_m6 next r p2 v0 v1 v2)) next r (fun rules2 more => G2 (rule_Rules_m2 next r rules2 more)) (fun rules3 more2 t37 => iter fu (LC.F tab (rule_Rules_phi nf) (fun _ F => iter nf F) rule_Rules_keep 4 (rule_Rules_L4 nf G2)) (rule_Rules_m4 next r rules3 more2 t37)) rules3 more2 t37 := by kernel_rfl
theorem rule_Rules_e4 (nf : Nat) (G2 : St → Option (List Int × Unit)) (next : List (List Int)) (r : Int × Unit) : ∀ (fu : Nat) (rules3 : List Int) (more2 : Bool) (t37 : Int), iter fu (LC.F tab (rule_Rules_phi nf) (fun _ F => iter nf F) rule_Rules_keep 4 (rule_Rules_L4 nf G2)) (rule_Rules_m4 next r rules3 more2 t37) = rule_Rules_l4 nf next r (fun rules2 more => G2 (rule_Rules_m2 next r rules2 more)) fu rules3 more2 t37 := by
  intro fu
  induction fu with
  | zero => intros; rfl
  | succ fu ih =>
    intro rules3 more2 t37
    rw [rule_Rules_h4 nf G2 next r fu rules3 more2 t37]
    simp only [ih, rule_Rules_e6]
    rfl
theorem rule_Rules_h2 (nf : Nat)  (next : List (List Int)) (r : Int × Unit) (fu : Nat) (rules2 : List Int) (more : Bool) : iter (fu + 1) (LC.F tab (rule_Rules_phi nf) (fun _ F => iter nf F) rule_Rules_keep 2 (rule_Rules_L2 nf )) (rule_Rules_m2 next r rules2 more) = rule_Rules_b2 nf (fun _ _ v0 v1 v2 => iter nf (LC.F tab (rule_Rules_phi nf) (fun _ F => iter nf F) rule_Rules_keep 4 (rule_Rules_L4 nf (iter fu (LC.F tab (rule_Rules_phi nf) (fun _ F => iter nf F) rule_Rules_keep 2 (rule_Rules_L2 nf ))))) (rule_Rules_m4 next r v0 v1 v2)) next r  (fun rules2 more => iter fu (LC.F tab (rule_Rules_phi nf) (fun _ F => iter nf F) rule_Rules_keep 2 (rule_Rules_L2 nf )) (rule_Rules_m2 next r rules2 more)) rules2 more := by kernel_rfl
theorem rule_Rules_e2 (nf : Nat)  (next : List (List Int)) (r : Int × Unit) : ∀ (fu : Nat) (rules2 : List Int) (more : Bool), iter fu (LC.F tab (rule_Rules_phi nf) (fun _ F => iter nf F) rule_Rules_keep 2 (rule_Rules_L2 nf )) (rule_Rules_m2 next r rules2 more) = rule_Rules_l2 nf next r  fu rules2 more := by
  intro fu
  induction fu with
  | zero => intros; rfl
  | succ fu ih =>
    intro rules2 more
    rw [rule_Rules_h2 nf  next r fu rules2 more]
    simp only [ih, rule_Rules_e4]
    rfl
theorem rule_Rules_h0 (nf : Nat)  (next : List (List Int)) (r : Int × Unit) (fu : Nat) (rules : List Int) (t19 : Int) : iter (fu + 1) (LC.F tab (rule_Rules_phi nf) (fun _ F => iter nf F) rule_Rules_keep 0 (rule_Rules_L0 nf )) (rule_Rules_m0 next r rules t19) = rule_Rules_b0 nf (fun _ _ v0 v1 => iter nf (LC.F tab (rule_Rules_phi nf) (fun _ F => iter nf F) rule_Rules_keep 2 (rule_Rules_L2 nf )) (rule_Rules_m2 next r v0 v1)) next r  (fun rules t19 => iter fu (LC.F tab (rule_Rules_phi nf) (fun _ F => iter nf F) rule_Rules_keep 0 (rule_Rules_L0 nf )) (rule_Rules_m0 next r rules t19)) rules t19 := by kernel_rfl
theorem rule_Rules_e0 (nf : Nat)  (next : List (List Int)) (r : Int × Unit) : ∀ (fu : Nat) (rules : List Int) (t19 : Int), iter fu (LC.F tab (rule_Rules_phi nf) (fun _ F => iter nf F) rule_Rules_keep 0 (rule_Rules_L0 nf )) (rule_Rules_m0 next r rules t19) = rule_Rules_l0 nf next r  fu rules t19 := by
  intro fu
  induction fu with
  | zero => intros; rfl
  | succ fu ih =>
    intro rules t19
    rw [rule_Rules_h0 nf  next r fu rules t19]
    simp only [ih, rule_Rules_e2]
    rfl
theorem rule_Rules_eq (nf : Nat) (next : List (List Int)) : runF tab (rule_Rules_phi nf) rule_Rules_keep nf [PT.val (Ty.int IntKind.i64).sl.sl (Md.bor true false)] [((Ty.int IntKind.u32).sl, Md.own false (Md.bor false false))] (resL (none) Try.f65) (codeOf Try.f65) ⟨next, ()⟩ = rule_Rules_f nf next := by
  have h : runF tab (rule_Rules_phi nf) rule_Rules_keep nf [PT.val (Ty.int IntKind.i64).sl.sl (Md.bor true false)] [((Ty.int IntKind.u32).sl, Md.own false (Md.bor false false))] (resL (none) Try.f65) (codeOf Try.f65) ⟨next, ()⟩ = rule_Rules_p nf (fun p0 p1 v0 v1 => iter nf (LC.F tab (rule_Rules_phi nf) (fun _ F => iter nf F) rule_Rules_keep 0 (rule_Rules_L0 nf)) (rule_Rules_m0 p0 p1 v0 v1)) next := by kernel_rfl
  rw [h]
  simp only [rule_Rules_e0]
  rfl
def rule_Rules_F (nf : Nat) (x : denPs [.val (.sl (.sl (.int .i64))) (.bor true false)]) : Option (denL [(.sl (.int .u32), .own false (.bor false false))]) := rule_Rules_f nf x.1
def rule_Rules_C (nf : Nat) : Contract := ⟨[.val (.sl (.sl (.int .i64))) (.bor true false)], [(.sl (.int .u32), .own false (.bor false false))], rule_Rules_F nf, none⟩
theorem rule_Rules_ok : FnOK Try.prog 65 := ⟨Try.f65, codeOf Try.f65, Try.func65, by kernel_rfl, by kernel_rfl⟩
theorem rule_Rules_holds (nf : Nat) : Contract.Holds Try.prog 65 (rule_Rules_C nf) :=
  fn_holds (Φ := rule_Rules_phi nf) (keep := rule_Rules_keep) (n := nf) ⟨tabs.1, tabs.2, (ctx_cons way_From_ok (way_From_holds nf) ctx_nil), mixed⟩ (fn := Try.f65) ⟨Try.func65, by kernel_rfl, by kernel_rfl, by kernel_rfl⟩ (fun x => rule_Rules_eq nf x.1)

/-! codemason rule.Table -/
def rule_Table_phi (nf : Nat) : Nat → Option Contract := lookC [(20, way_Check_C nf), (65, rule_Rules_C nf)]
def rule_Table_keep : Nat → List Nat := lookK []
def rule_Table_p (nf : Nat)  (next : List (List Int)) : Option (List Int × Int × Unit) :=
  Option.bind (way_Check_f nf next) fun r =>
  bif r.fst != 0 then
    some (([], r.fst, ()))
  else
    Option.bind (rule_Rules_f nf next) fun r2 =>
    some ((r2.fst, 0, ()))
def rule_Table_f (nf : Nat) (next : List (List Int)) : Option (List Int × Int × Unit) := rule_Table_p nf  next
theorem rule_Table_eq (nf : Nat) (next : List (List Int)) : runF tab (rule_Table_phi nf) rule_Table_keep nf [PT.val (Ty.int IntKind.i64).sl.sl (Md.bor true false)] [((Ty.int IntKind.u32).sl, Md.own false (Md.bor false false)), (Ty.int IntKind.i64, Md.bor false true)] (resL (none) Try.f34) (codeOf Try.f34) ⟨next, ()⟩ = rule_Table_f nf next := by
  have h : runF tab (rule_Table_phi nf) rule_Table_keep nf [PT.val (Ty.int IntKind.i64).sl.sl (Md.bor true false)] [((Ty.int IntKind.u32).sl, Md.own false (Md.bor false false)), (Ty.int IntKind.i64, Md.bor false true)] (resL (none) Try.f34) (codeOf Try.f34) ⟨next, ()⟩ = rule_Table_p nf  next := by kernel_rfl
  exact h
def rule_Table_F (nf : Nat) (x : denPs [.val (.sl (.sl (.int .i64))) (.bor true false)]) : Option (denL [(.sl (.int .u32), .own false (.bor false false)), (.int .i64, .bor false true)]) := rule_Table_f nf x.1
def rule_Table_C (nf : Nat) : Contract := ⟨[.val (.sl (.sl (.int .i64))) (.bor true false)], [(.sl (.int .u32), .own false (.bor false false)), (.int .i64, .bor false true)], rule_Table_F nf, none⟩
theorem rule_Table_ok : FnOK Try.prog 34 := ⟨Try.f34, codeOf Try.f34, Try.func34, by kernel_rfl, by kernel_rfl⟩
theorem rule_Table_holds (nf : Nat) : Contract.Holds Try.prog 34 (rule_Table_C nf) :=
  fn_holds (Φ := rule_Table_phi nf) (keep := rule_Table_keep) (n := nf) ⟨tabs.1, tabs.2, (ctx_cons way_Check_ok (way_Check_holds nf) (ctx_cons rule_Rules_ok (rule_Rules_holds nf) ctx_nil)), mixed⟩ (fn := Try.f34) ⟨Try.func34, by kernel_rfl, by kernel_rfl, by kernel_rfl⟩ (fun x => rule_Table_eq nf x.1)

/-! codemason codemasonref.Rules -/
def ref_Rules_phi (nf : Nat) : Nat → Option Contract := lookC [(24, ref_Reach_C nf), (28, ref_Has_C nf)]
def ref_Rules_keep : Nat → List Nat := lookK []
def ref_Rules_p (nf : Nat)  (next : List (List Int)) (i : Int) (j : Int) : Option (Bool × Unit) :=
  Option.bind (ref_Reach_f nf next 0 (-1)) fun r =>
  Option.bind (ref_Has_f nf r.fst i) fun r2 =>
  bif r2.fst then
    Option.bind (ref_Reach_f nf next 0 (-1)) fun r3 =>
    Option.bind (ref_Has_f nf r3.fst j) fun r4 =>
    bif r4.fst then
      bif i == j then
        some ((true, ()))
      else
        Option.bind (ref_Reach_f nf next 0 i) fun r5 =>
        Option.bind (ref_Has_f nf r5.fst j) fun r6 =>
        some ((!r6.fst, ()))
    else
      some ((false, ()))
  else
    some ((false, ()))
def ref_Rules_f (nf : Nat) (next : List (List Int)) (i : Int) (j : Int) : Option (Bool × Unit) := ref_Rules_p nf  next i j
theorem ref_Rules_eq (nf : Nat) (next : List (List Int)) (i : Int) (j : Int) : runF tab (ref_Rules_phi nf) ref_Rules_keep nf [PT.val (Ty.int IntKind.i64).sl.sl (Md.bor true false), PT.val (Ty.int IntKind.i64) (Md.bor true false), PT.val (Ty.int IntKind.i64) (Md.bor true false)] [(Ty.bool, Md.bor false true)] (resL (none) Try.f35) (codeOf Try.f35) ⟨next, i, j, ()⟩ = ref_Rules_f nf next i j := by
  have h : runF tab (ref_Rules_phi nf) ref_Rules_keep nf [PT.val (Ty.int IntKind.i64).sl.sl (Md.bor true false), PT.val (Ty.int IntKind.i64) (Md.bor true false), PT.val (Ty.int IntKind.i64) (Md.bor true false)] [(Ty.bool, Md.bor false true)] (resL (none) Try.f35) (codeOf Try.f35) ⟨next, i, j, ()⟩ = ref_Rules_p nf  next i j := by kernel_rfl
  exact h
def ref_Rules_F (nf : Nat) (x : denPs [.val (.sl (.sl (.int .i64))) (.bor true false), .val (.int .i64) (.bor true false), .val (.int .i64) (.bor true false)]) : Option (denL [(.bool, .bor false true)]) := ref_Rules_f nf x.1 x.2.1 x.2.2.1
def ref_Rules_C (nf : Nat) : Contract := ⟨[.val (.sl (.sl (.int .i64))) (.bor true false), .val (.int .i64) (.bor true false), .val (.int .i64) (.bor true false)], [(.bool, .bor false true)], ref_Rules_F nf, none⟩
theorem ref_Rules_ok : FnOK Try.prog 35 := ⟨Try.f35, codeOf Try.f35, Try.func35, by kernel_rfl, by kernel_rfl⟩
theorem ref_Rules_holds (nf : Nat) : Contract.Holds Try.prog 35 (ref_Rules_C nf) :=
  fn_holds (Φ := ref_Rules_phi nf) (keep := ref_Rules_keep) (n := nf) ⟨tabs.1, tabs.2, (ctx_cons ref_Reach_ok (ref_Reach_holds nf) (ctx_cons ref_Has_ok (ref_Has_holds nf) ctx_nil)), mixed⟩ (fn := Try.f35) ⟨Try.func35, by kernel_rfl, by kernel_rfl, by kernel_rfl⟩ (fun x => ref_Rules_eq nf x.1 x.2.1 x.2.2.1)

/-! codemason codemasonlaw.RuleTables -/
def law_RuleTables_phi (nf : Nat) : Nat → Option Contract := lookC [(21, ref_WayCheck_C nf), (34, rule_Table_C nf), (35, ref_Rules_C nf)]
def law_RuleTables_keep : Nat → List Nat := lookK [(2, [0, 3, 4, 6, 7, 8, 9, 11, 12]), (0, [0, 3, 4, 6, 9, 11, 12])]
def law_RuleTables_b0 (nf : Nat) (l2 : List (List Int) → List Int × Int × Unit → Int → List Int → Int → Int → Option (Bool × Unit)) (next : List (List Int)) (r : List Int × Int × Unit) (g0 : List Int → Int → Option (Bool × Unit)) (l' : List Int) (i : Int) : Option (Bool × Unit) :=
  bif decide (i < (↑l'.length : Int)) then
    bif decide (i < (↑next.length : Int)) then
      l2 next r i l' 0 0
    else
      bif r.snd.fst == 0 then
        some (((↑l'.length : Int) == (↑next.length : Int), ()))
      else
        some ((false, ()))
  else
    bif r.snd.fst == 0 then
      some (((↑l'.length : Int) == (↑next.length : Int), ()))
    else
      some ((false, ()))
def law_RuleTables_b2 (nf : Nat) (next : List (List Int)) (r : List Int × Int × Unit) (i : Int) (g0 : List Int → Int → Option (Bool × Unit)) (g2 : List Int → Int → Int → Option (Bool × Unit)) (l'2 : List Int) (want : Int) (j : Int) : Option (Bool × Unit) :=
  bif decide (j < (↑next.length : Int)) then
    Option.bind (ref_Rules_f nf next j i) fun r3 =>
    bif r3.fst then
      bif decide (0 ≤ IntKind.u64.wrap j) then
        g2 l'2 (IntKind.u32.wrap (want + shlI IntKind.u32 1 (IntKind.u64.wrap j))) (IntKind.i64.wrap (j + 1))
      else
        none
    else
      g2 l'2 want (IntKind.i64.wrap (j + 1))
  else
    bif inb i l'2.length then
      bif l'2.getD i.toNat 0 != want then
        some ((false, ()))
      else
        g0 l'2 (IntKind.i64.wrap (i + 1))
    else
      none
def law_RuleTables_p (nf : Nat) (l0 : List (List Int) → List Int × Int × Unit → List Int → Int → Option (Bool × Unit)) (next : List (List Int)) : Option (Bool × Unit) :=
  Option.bind (rule_Table_f nf next) fun r =>
  Option.bind (ref_WayCheck_f nf next) fun r2 =>
  bif r2.fst != 0 then
    bif r.snd.fst == r2.fst then
      some (((↑(List.length r.fst) : Int) == 0, ()))
    else
      some ((false, ()))
  else
    l0 next r r.fst 0
def law_RuleTables_l2 (nf : Nat) (next : List (List Int)) (r : List Int × Int × Unit) (i : Int) (g0 : List Int → Int → Option (Bool × Unit)) : Nat → List Int → Int → Int → Option (Bool × Unit)
  | 0, _, _, _ => none
  | fu + 1, l'2, want, j => law_RuleTables_b2 nf  next r i g0 (law_RuleTables_l2 nf next r i g0 fu) l'2 want j
def law_RuleTables_l0 (nf : Nat) (next : List (List Int)) (r : List Int × Int × Unit) : Nat → List Int → Int → Option (Bool × Unit)
  | 0, _, _ => none
  | fu + 1, l', i => law_RuleTables_b0 nf (fun _ _ p2 v0 v1 v2 => law_RuleTables_l2 nf next r p2 (fun l' i => law_RuleTables_l0 nf next r  fu l' i) nf v0 v1 v2) next r  (law_RuleTables_l0 nf next r  fu) l' i
def law_RuleTables_f (nf : Nat) (next : List (List Int)) : Option (Bool × Unit) := law_RuleTables_p nf (fun p0 p1 v0 v1 => law_RuleTables_l0 nf p0 p1 nf v0 v1) next
noncomputable def law_RuleTables_L0 (nf : Nat) : LC (Bool × Unit) := theL (findL tab (law_RuleTables_phi nf) (fun _ F => iter nf F) law_RuleTables_keep 0 0 (codeOf Try.f8) (fin tab [(Ty.bool, Md.bor false true)] (resL (none) Try.f8)) (fun _ _ => none) (fin tab [(Ty.bool, Md.bor false true)] (resL (none) Try.f8)))
def law_RuleTables_m0 (next : List (List Int)) (r : List Int × Int × Unit) (l' : List Int) (i : Int) : St := ⟨fresh, [(0, AV.v (Ty.int IntKind.i64).sl.sl (Md.bor true false) next), (3, AV.ow 500003 (Ty.int IntKind.u32).sl (Md.own false (Md.bor false false)) l'), (4, AV.v (Ty.int IntKind.i64) (Md.bor false true) r.snd.fst), (6, AV.v (Ty.int IntKind.i64) (Md.bor false true) i), (9, AV.dead), (11, AV.dead), (12, AV.dead)]⟩
noncomputable def law_RuleTables_L2 (nf : Nat) (G0 : St → Option (Bool × Unit)) : LC (Bool × Unit) := theL (findL tab (law_RuleTables_phi nf) (fun _ F => iter nf F) law_RuleTables_keep 2 0 (law_RuleTables_L0 nf ).c (fun st => norm (law_RuleTables_keep 0) st G0) (law_RuleTables_L0 nf ).Kx (law_RuleTables_L0 nf ).Kr)
def law_RuleTables_m2 (next : List (List Int)) (r : List Int × Int × Unit) (i : Int) (l'2 : List Int) (want : Int) (j : Int) : St := ⟨fresh, [(0, AV.v (Ty.int IntKind.i64).sl.sl (Md.bor true false) next), (3, AV.ow 500003 (Ty.int IntKind.u32).sl (Md.own false (Md.bor false false)) l'2), (4, AV.v (Ty.int IntKind.i64) (Md.bor false true) r.snd.fst), (6, AV.v (Ty.int IntKind.i64) (Md.bor false true) i), (7, AV.v (Ty.int IntKind.u32) (Md.bor false true) want), (8, AV.v (Ty.int IntKind.i64) (Md.bor false true) j), (9, AV.dead), (11, AV.dead), (12, AV.dead)]⟩
theorem law_RuleTables_h2 (nf : Nat) (G0 : St → Option (Bool × Unit)) (next : List (List Int)) (r : List Int × Int × Unit) (i : Int) (fu : Nat) (l'2 : List Int) (want : Int) (j : Int) : iter (fu + 1) (LC.F tab (law_RuleTables_phi nf) (fun _ F => iter nf F) law_RuleTables_keep 2 (law_RuleTables_L2 nf G0)) (law_RuleTables_m2 next r i l'2 want j) = law_RuleTables_b2 nf  next r i (fun l' i => G0 (law_RuleTables_m0 next r l' i)) (fun l'2 want j => iter fu (LC.F tab (law_RuleTables_phi nf) (fun _ F => iter nf F) law_RuleTables_keep 2 (law_RuleTables_L2 nf G0)) (law_RuleTables_m2 next r i l'2 want j)) l'2 want j := by kernel_rfl
theorem law_RuleTables_e2 (nf : Nat) (G0 : St → Option (Bool × Unit)) (next : List (List Int)) (r : List Int × Int × Unit) (i : Int) : ∀ (fu : Nat) (l'2 : List Int) (want : Int) (j : Int), iter fu (LC.F tab (law_RuleTables_phi nf) (fun _ F => iter nf F) law_RuleTables_keep 2 (law_RuleTables_L2 nf G0)) (law_RuleTables_m2 next r i l'2 want j) = law_RuleTables_l2 nf next r i (fun l' i => G0 (law_RuleTables_m0 next r l' i)) fu l'2 want j := by
  intro fu
  induction fu with
  | zero => intros; rfl
  | succ fu ih =>
    intro l'2 want j
    rw [law_RuleTables_h2 nf G0 next r i fu l'2 want j]
    simp only [ih]
    rfl
theorem law_RuleTables_h0 (nf : Nat)  (next : List (List Int)) (r : List Int × Int × Unit) (fu : Nat) (l' : List Int) (i : Int) : iter (fu + 1) (LC.F tab (law_RuleTables_phi nf) (fun _ F => iter nf F) law_RuleTables_keep 0 (law_RuleTables_L0 nf )) (law_RuleTables_m0 next r l' i) = law_RuleTables_b0 nf (fun _ _ p2 v0 v1 v2 => iter nf (LC.F tab (law_RuleTables_phi nf) (fun _ F => iter nf F) law_RuleTables_keep 2 (law_RuleTables_L2 nf (iter fu (LC.F tab (law_RuleTables_phi nf) (fun _ F => iter nf F) law_RuleTables_keep 0 (law_RuleTables_L0 nf ))))) (law_RuleTables_m2 next r p2 v0 v1 v2)) next r  (fun l' i => iter fu (LC.F tab (law_RuleTables_phi nf) (fun _ F => iter nf F) law_RuleTables_keep 0 (law_RuleTables_L0 nf )) (law_RuleTables_m0 next r l' i)) l' i := by kernel_rfl
theorem law_RuleTables_e0 (nf : Nat)  (next : List (List Int)) (r : List Int × Int × Unit) : ∀ (fu : Nat) (l' : List Int) (i : Int), iter fu (LC.F tab (law_RuleTables_phi nf) (fun _ F => iter nf F) law_RuleTables_keep 0 (law_RuleTables_L0 nf )) (law_RuleTables_m0 next r l' i) = law_RuleTables_l0 nf next r  fu l' i := by
  intro fu
  induction fu with
  | zero => intros; rfl
  | succ fu ih =>
    intro l' i
    rw [law_RuleTables_h0 nf  next r fu l' i]
    simp only [ih, law_RuleTables_e2]
    rfl
theorem law_RuleTables_eq (nf : Nat) (next : List (List Int)) : runF tab (law_RuleTables_phi nf) law_RuleTables_keep nf [PT.val (Ty.int IntKind.i64).sl.sl (Md.bor true false)] [(Ty.bool, Md.bor false true)] (resL (none) Try.f8) (codeOf Try.f8) ⟨next, ()⟩ = law_RuleTables_f nf next := by
  have h : runF tab (law_RuleTables_phi nf) law_RuleTables_keep nf [PT.val (Ty.int IntKind.i64).sl.sl (Md.bor true false)] [(Ty.bool, Md.bor false true)] (resL (none) Try.f8) (codeOf Try.f8) ⟨next, ()⟩ = law_RuleTables_p nf (fun p0 p1 v0 v1 => iter nf (LC.F tab (law_RuleTables_phi nf) (fun _ F => iter nf F) law_RuleTables_keep 0 (law_RuleTables_L0 nf)) (law_RuleTables_m0 p0 p1 v0 v1)) next := by kernel_rfl
  rw [h]
  simp only [law_RuleTables_e0]
  rfl
def law_RuleTables_F (nf : Nat) (x : denPs [.val (.sl (.sl (.int .i64))) (.bor true false)]) : Option (denL [(.bool, .bor false true)]) := law_RuleTables_f nf x.1
def law_RuleTables_C (nf : Nat) : Contract := ⟨[.val (.sl (.sl (.int .i64))) (.bor true false)], [(.bool, .bor false true)], law_RuleTables_F nf, none⟩
theorem law_RuleTables_ok : FnOK Try.prog 8 := ⟨Try.f8, codeOf Try.f8, Try.func8, by kernel_rfl, by kernel_rfl⟩
theorem law_RuleTables_holds (nf : Nat) : Contract.Holds Try.prog 8 (law_RuleTables_C nf) :=
  fn_holds (Φ := law_RuleTables_phi nf) (keep := law_RuleTables_keep) (n := nf) ⟨tabs.1, tabs.2, (ctx_cons ref_WayCheck_ok (ref_WayCheck_holds nf) (ctx_cons rule_Table_ok (rule_Table_holds nf) (ctx_cons ref_Rules_ok (ref_Rules_holds nf) ctx_nil))), mixed⟩ (fn := Try.f8) ⟨Try.func8, by kernel_rfl, by kernel_rfl, by kernel_rfl⟩ (fun x => law_RuleTables_eq nf x.1)

/-! codemason rule.Edges -/
def rule_Edges_phi (nf : Nat) : Nat → Option Contract := lookC [(65, rule_Rules_C nf)]
def rule_Edges_keep : Nat → List Nat := lookK [(4, [0, 3, 4, 5, 7, 11, 14, 16, 17, 20, 21, 22, 25, 26, 35, 36, 37]), (2, [0, 3, 4, 5, 11, 14, 16, 17, 20, 21, 22]), (0, [0, 3, 4, 11, 14, 16, 17])]
def rule_Edges_b0 (nf : Nat) (l2 : List (List Int) → Int → List Int × Unit → List Int → List Int → Int → Option (List Int × Unit)) (next : List (List Int)) (r : List Int × Unit) (g0 : List Int → List Int → Int → Option (List Int × Unit)) (l' : List Int) (out : List Int) (t17 : Int) : Option (List Int × Unit) :=
  bif decide (t17 < (↑(List.length r.fst) : Int)) then
    l2 next t17 r l' out 0
  else
    some ((out, ()))
def rule_Edges_b2 (nf : Nat) (l4 : List (List Int) → Int → Int → List Int × Unit → List Int → List Int → Int → Option (List Int × Unit)) (next : List (List Int)) (t17 : Int) (r : List Int × Unit) (g0 : List Int → List Int → Int → Option (List Int × Unit)) (g2 : List Int → List Int → Int → Option (List Int × Unit)) (l'2 : List Int) (out2 : List Int) (t22 : Int) : Option (List Int × Unit) :=
  bif decide (t22 < (↑next.length : Int)) then
    bif inb t22 next.length then
      bif inb t22 l'2.length then
        bif decide (0 ≤ t17) then
          bif IntKind.u32.wrap (↑(BitVec.ofInt IntKind.u32.bits (shrI IntKind.u32 (l'2.getD t22.toNat 0) t17) &&& BitVec.ofInt IntKind.u32.bits 1).toNat : Int) == 0 then
            g2 l'2 out2 (IntKind.i64.wrap (t22 + 1))
          else
            l4 next t17 t22 r l'2 out2 0
        else
          none
      else
        none
    else
      none
  else
    g0 l'2 out2 (IntKind.i64.wrap (t17 + 1))
def rule_Edges_b4 (nf : Nat) (next : List (List Int)) (t17 : Int) (t22 : Int) (r : List Int × Unit) (g2 : List Int → List Int → Int → Option (List Int × Unit)) (g0 : List Int → List Int → Int → Option (List Int × Unit)) (g4 : List Int → List Int → Int → Option (List Int × Unit)) (l'3 : List Int) (out3 : List Int) (t37 : Int) : Option (List Int × Unit) :=
  bif decide (t37 < (↑(List.length (next.getD t22.toNat [])) : Int)) then
    bif inb t37 (List.length (next.getD t22.toNat [])) then
      bif List.getD (next.getD t22.toNat []) t37.toNat 0 == t17 then
        bif inb t17 out3.length then
          bif decide (0 ≤ List.getD (next.getD t22.toNat []) t37.toNat 0) then
            bif inb t17 out3.length then
              g4 l'3 (out3.set t17.toNat (IntKind.u32.wrap (↑(BitVec.ofInt IntKind.u32.bits (out3.getD t17.toNat 0) ||| BitVec.ofInt IntKind.u32.bits (shlI IntKind.u32 1 (List.getD (next.getD t22.toNat []) t37.toNat 0))).toNat : Int))) (IntKind.i64.wrap (t37 + 1))
            else
              none
          else
            none
        else
          none
      else
        bif inb (List.getD (next.getD t22.toNat []) t37.toNat 0) l'3.length then
          bif decide (0 ≤ t17) then
            bif IntKind.u32.wrap (↑(BitVec.ofInt IntKind.u32.bits (shrI IntKind.u32 (l'3.getD (Int.toNat (List.getD (next.getD t22.toNat []) t37.toNat 0)) 0) t17) &&& BitVec.ofInt IntKind.u32.bits 1).toNat : Int) == 0 then
              bif inb t17 out3.length then
                bif decide (0 ≤ List.getD (next.getD t22.toNat []) t37.toNat 0) then
                  bif inb t17 out3.length then
                    g4 l'3 (out3.set t17.toNat (IntKind.u32.wrap (↑(BitVec.ofInt IntKind.u32.bits (out3.getD t17.toNat 0) ||| BitVec.ofInt IntKind.u32.bits (shlI IntKind.u32 1 (List.getD (next.getD t22.toNat []) t37.toNat 0))).toNat : Int))) (IntKind.i64.wrap (t37 + 1))
                  else
                    none
                else
                  none
              else
                none
            else
              g4 l'3 out3 (IntKind.i64.wrap (t37 + 1))
          else
            none
        else
          none
    else
      none
  else
    g2 l'3 out3 (IntKind.i64.wrap (t22 + 1))
def rule_Edges_p (nf : Nat) (l0 : List (List Int) → List Int × Unit → List Int → List Int → Int → Option (List Int × Unit)) (next : List (List Int)) : Option (List Int × Unit) :=
  Option.bind (rule_Rules_f nf next) fun r =>
  bif decide (0 ≤ (↑(List.length r.fst) : Int)) && decide ((↑(List.length r.fst) : Int) ≤ (↑(List.length r.fst) : Int)) && decide ((↑(List.length r.fst) : Int) ≤ (↑lim : Int)) then
    l0 next r r.fst (List.replicate (↑(List.length r.fst) : Int).toNat 0) 0
  else
    none
def rule_Edges_l4 (nf : Nat) (next : List (List Int)) (t17 : Int) (t22 : Int) (r : List Int × Unit) (g2 : List Int → List Int → Int → Option (List Int × Unit)) (g0 : List Int → List Int → Int → Option (List Int × Unit)) : Nat → List Int → List Int → Int → Option (List Int × Unit)
  | 0, _, _, _ => none
  | fu + 1, l'3, out3, t37 => rule_Edges_b4 nf  next t17 t22 r g2 g0 (rule_Edges_l4 nf next t17 t22 r g2 g0 fu) l'3 out3 t37
def rule_Edges_l2 (nf : Nat) (next : List (List Int)) (t17 : Int) (r : List Int × Unit) (g0 : List Int → List Int → Int → Option (List Int × Unit)) : Nat → List Int → List Int → Int → Option (List Int × Unit)
  | 0, _, _, _ => none
  | fu + 1, l'2, out2, t22 => rule_Edges_b2 nf (fun _ _ p2 _ v0 v1 v2 => rule_Edges_l4 nf next t17 p2 r (fun l'2 out2 t22 => rule_Edges_l2 nf next t17 r g0 fu l'2 out2 t22) g0 nf v0 v1 v2) next t17 r g0 (rule_Edges_l2 nf next t17 r g0 fu) l'2 out2 t22
def rule_Edges_l0 (nf : Nat) (next : List (List Int)) (r : List Int × Unit) : Nat → List Int → List Int → Int → Option (List Int × Unit)
  | 0, _, _, _ => none
  | fu + 1, l', out, t17 => rule_Edges_b0 nf (fun _ p1 _ v0 v1 v2 => rule_Edges_l2 nf next p1 r (fun l' out t17 => rule_Edges_l0 nf next r  fu l' out t17) nf v0 v1 v2) next r  (rule_Edges_l0 nf next r  fu) l' out t17
def rule_Edges_f (nf : Nat) (next : List (List Int)) : Option (List Int × Unit) := rule_Edges_p nf (fun p0 p1 v0 v1 v2 => rule_Edges_l0 nf p0 p1 nf v0 v1 v2) next
noncomputable def rule_Edges_L0 (nf : Nat) : LC (List Int × Unit) := theL (findL tab (rule_Edges_phi nf) (fun _ F => iter nf F) rule_Edges_keep 0 0 (codeOf Try.f67) (fin tab [((Ty.int IntKind.u32).sl, Md.own false (Md.bor false false))] (resL (none) Try.f67)) (fun _ _ => none) (fin tab [((Ty.int IntKind.u32).sl, Md.own false (Md.bor false false))] (resL (none) Try.f67)))
def rule_Edges_m0 (next : List (List Int)) (r : List Int × Unit) (l' : List Int) (out : List Int) (t17 : Int) : St := ⟨fresh, [(0, AV.v (Ty.int IntKind.i64).sl.sl (Md.bor true false) next), (3, AV.ow 500003 (Ty.int IntKind.u32).sl (Md.own false (Md.bor false false)) l'), (4, AV.ow 500004 (Ty.int IntKind.u32).sl (Md.own false (Md.bor false false)) out), (11, AV.dead), (14, AV.dead), (16, AV.v (Ty.int IntKind.i64) (Md.bor false true) (↑(List.length r.fst) : Int)), (17, AV.v (Ty.int IntKind.i64) (Md.bor false true) t17)]⟩
noncomputable def rule_Edges_L2 (nf : Nat) (G0 : St → Option (List Int × Unit)) : LC (List Int × Unit) := theL (findL tab (rule_Edges_phi nf) (fun _ F => iter nf F) rule_Edges_keep 2 0 (rule_Edges_L0 nf ).c (fun st => norm (rule_Edges_keep 0) st G0) (rule_Edges_L0 nf ).Kx (rule_Edges_L0 nf ).Kr)
def rule_Edges_m2 (next : List (List Int)) (t17 : Int) (r : List Int × Unit) (l'2 : List Int) (out2 : List Int) (t22 : Int) : St := ⟨fresh, [(0, AV.v (Ty.int IntKind.i64).sl.sl (Md.bor true false) next), (3, AV.ow 500003 (Ty.int IntKind.u32).sl (Md.own false (Md.bor false false)) l'2), (4, AV.ow 500004 (Ty.int IntKind.u32).sl (Md.own false (Md.bor false false)) out2), (5, AV.v (Ty.int IntKind.i64) (Md.bor false true) t17), (11, AV.dead), (14, AV.dead), (16, AV.v (Ty.int IntKind.i64) (Md.bor false true) (↑(List.length r.fst) : Int)), (17, AV.v (Ty.int IntKind.i64) (Md.bor false true) t17), (20, AV.v (Ty.int IntKind.i64).sl.sl (Md.bor true false) next), (21, AV.v (Ty.int IntKind.i64) (Md.bor false true) (↑next.length : Int)), (22, AV.v (Ty.int IntKind.i64) (Md.bor false true) t22)]⟩
noncomputable def rule_Edges_L4 (nf : Nat) (G0 : St → Option (List Int × Unit)) (G2 : St → Option (List Int × Unit)) : LC (List Int × Unit) := theL (findL tab (rule_Edges_phi nf) (fun _ F => iter nf F) rule_Edges_keep 4 2 (rule_Edges_L2 nf G0).c (fun st => norm (rule_Edges_keep 2) st G2) (rule_Edges_L2 nf G0).Kx (rule_Edges_L2 nf G0).Kr)
def rule_Edges_m4 (next : List (List Int)) (t17 : Int) (t22 : Int) (r : List Int × Unit) (l'3 : List Int) (out3 : List Int) (t37 : Int) : St := ⟨fresh, [(0, AV.v (Ty.int IntKind.i64).sl.sl (Md.bor true false) next), (3, AV.ow 500003 (Ty.int IntKind.u32).sl (Md.own false (Md.bor false false)) l'3), (4, AV.ow 500004 (Ty.int IntKind.u32).sl (Md.own false (Md.bor false false)) out3), (5, AV.v (Ty.int IntKind.i64) (Md.bor false true) t17), (7, AV.v (Ty.int IntKind.i64).sl (Md.bor true false) (next.getD t22.toNat [])), (11, AV.dead), (14, AV.dead), (16, AV.v (Ty.int IntKind.i64) (Md.bor false true) (↑(List.length r.fst) : Int)), (17, AV.v (Ty.int IntKind.i64) (Md.bor false true) t17), (20, AV.v (Ty.int IntKind.i64).sl.sl (Md.bor true false) next), (21, AV.v (Ty.int IntKind.i64) (Md.bor false true) (↑next.length : Int)), (22, AV.v (Ty.int IntKind.i64) (Md.bor false true) t22), (25, AV.rop (Ty.int IntKind.i64).sl (Md.bor true false) (next.getD t22.toNat [])), (26, AV.v (Ty.int IntKind.i64).sl (Md.bor true false) (next.getD t22.toNat [])), (35, AV.v (Ty.int IntKind.i64).sl (Md.bor true false) (next.getD t22.toNat [])), (36, AV.v (Ty.int IntKind.i64) (Md.bor false true) (↑(List.length (next.getD t22.toNat [])) : Int)), (37, AV.v (Ty.int IntKind.i64) (Md.bor false true) t37)]⟩
theorem rule_Edges_h4 (nf : Nat) (G0 : St → Option (List Int × Unit)) (G2 : St → Option (List Int × Unit)) (next : List (List Int)) (t17 : Int) (t22 : Int) (r : List Int × Unit) (fu : Nat) (l'3 : List Int) (out3 : List Int) (t37 : Int) : iter (fu + 1) (LC.F tab (rule_Edges_phi nf) (fun _ F => iter nf F) rule_Edges_keep 4 (rule_Edges_L4 nf G0 G2)) (rule_Edges_m4 next t17 t22 r l'3 out3 t37) = rule_Edges_b4 nf  next t17 t22 r (fun l'2 out2 t22 => G2 (rule_Edges_m2 next t17 r l'2 out2 t22)) (fun l' out t17 => G0 (rule_Edges_m0 next r l' out t17)) (fun l'3 out3 t37 => iter fu (LC.F tab (rule_Edges_phi nf) (fun _ F => iter nf F) rule_Edges_keep 4 (rule_Edges_L4 nf G0 G2)) (rule_Edges_m4 next t17 t22 r l'3 out3 t37)) l'3 out3 t37 := by kernel_rfl
theorem rule_Edges_e4 (nf : Nat) (G0 : St → Option (List Int × Unit)) (G2 : St → Option (List Int × Unit)) (next : List (List Int)) (t17 : Int) (t22 : Int) (r : List Int × Unit) : ∀ (fu : Nat) (l'3 : List Int) (out3 : List Int) (t37 : Int), iter fu (LC.F tab (rule_Edges_phi nf) (fun _ F => iter nf F) rule_Edges_keep 4 (rule_Edges_L4 nf G0 G2)) (rule_Edges_m4 next t17 t22 r l'3 out3 t37) = rule_Edges_l4 nf next t17 t22 r (fun l'2 out2 t22 => G2 (rule_Edges_m2 next t17 r l'2 out2 t22)) (fun l' out t17 => G0 (rule_Edges_m0 next r l' out t17)) fu l'3 out3 t37 := by
  intro fu
  induction fu with
  | zero => intros; rfl
  | succ fu ih =>
    intro l'3 out3 t37
    rw [rule_Edges_h4 nf G0 G2 next t17 t22 r fu l'3 out3 t37]
    simp only [ih]
    rfl
theorem rule_Edges_h2 (nf : Nat) (G0 : St → Option (List Int × Unit)) (next : List (List Int)) (t17 : Int) (r : List Int × Unit) (fu : Nat) (l'2 : List Int) (out2 : List Int) (t22 : Int) : iter (fu + 1) (LC.F tab (rule_Edges_phi nf) (fun _ F => iter nf F) rule_Edges_keep 2 (rule_Edges_L2 nf G0)) (rule_Edges_m2 next t17 r l'2 out2 t22) = rule_Edges_b2 nf (fun _ _ p2 _ v0 v1 v2 => iter nf (LC.F tab (rule_Edges_phi nf) (fun _ F => iter nf F) rule_Edges_keep 4 (rule_Edges_L4 nf G0 (iter fu (LC.F tab (rule_Edges_phi nf) (fun _ F => iter nf F) rule_Edges_keep 2 (rule_Edges_L2 nf G0))))) (rule_Edges_m4 next t17 p2 r v0 v1 v2)) next t17 r (fun l' out t17 => G0 (rule_Edges_m0 next r l' out t17)) (fun l'2 out2 t22 => iter fu (LC.F tab (rule_Edges_phi nf) (fun _ F => iter nf F) rule_Edges_keep 2 (rule_Edges_L2 nf G0)) (rule_Edges_m2 next t17 r l'2 out2 t22)) l'2 out2 t22 := by kernel_rfl
theorem rule_Edges_e2 (nf : Nat) (G0 : St → Option (List Int × Unit)) (next : List (List Int)) (t17 : Int) (r : List Int × Unit) : ∀ (fu : Nat) (l'2 : List Int) (out2 : List Int) (t22 : Int), iter fu (LC.F tab (rule_Edges_phi nf) (fun _ F => iter nf F) rule_Edges_keep 2 (rule_Edges_L2 nf G0)) (rule_Edges_m2 next t17 r l'2 out2 t22) = rule_Edges_l2 nf next t17 r (fun l' out t17 => G0 (rule_Edges_m0 next r l' out t17)) fu l'2 out2 t22 := by
  intro fu
  induction fu with
  | zero => intros; rfl
  | succ fu ih =>
    intro l'2 out2 t22
    rw [rule_Edges_h2 nf G0 next t17 r fu l'2 out2 t22]
    simp only [ih, rule_Edges_e4]
    rfl
theorem rule_Edges_h0 (nf : Nat)  (next : List (List Int)) (r : List Int × Unit) (fu : Nat) (l' : List Int) (out : List Int) (t17 : Int) : iter (fu + 1) (LC.F tab (rule_Edges_phi nf) (fun _ F => iter nf F) rule_Edges_keep 0 (rule_Edges_L0 nf )) (rule_Edges_m0 next r l' out t17) = rule_Edges_b0 nf (fun _ p1 _ v0 v1 v2 => iter nf (LC.F tab (rule_Edges_phi nf) (fun _ F => iter nf F) rule_Edges_keep 2 (rule_Edges_L2 nf (iter fu (LC.F tab (rule_Edges_phi nf) (fun _ F => iter nf F) rule_Edges_keep 0 (rule_Edges_L0 nf ))))) (rule_Edges_m2 next p1 r v0 v1 v2)) next r  (fun l' out t17 => iter fu (LC.F tab (rule_Edges_phi nf) (fun _ F => iter nf F) rule_Edges_keep 0 (rule_Edges_L0 nf )) (rule_Edges_m0 next r l' out t17)) l' out t17 := by kernel_rfl
theorem rule_Edges_e0 (nf : Nat)  (next : List (List Int)) (r : List Int × Unit) : ∀ (fu : Nat) (l' : List Int) (out : List Int) (t17 : Int), iter fu (LC.F tab (rule_Edges_phi nf) (fun _ F => iter nf F) rule_Edges_keep 0 (rule_Edges_L0 nf )) (rule_Edges_m0 next r l' out t17) = rule_Edges_l0 nf next r  fu l' out t17 := by
  intro fu
  induction fu with
  | zero => intros; rfl
  | succ fu ih =>
    intro l' out t17
    rw [rule_Edges_h0 nf  next r fu l' out t17]
    simp only [ih, rule_Edges_e2]
    rfl
theorem rule_Edges_eq (nf : Nat) (next : List (List Int)) : runF tab (rule_Edges_phi nf) rule_Edges_keep nf [PT.val (Ty.int IntKind.i64).sl.sl (Md.bor true false)] [((Ty.int IntKind.u32).sl, Md.own false (Md.bor false false))] (resL (none) Try.f67) (codeOf Try.f67) ⟨next, ()⟩ = rule_Edges_f nf next := by
  have h : runF tab (rule_Edges_phi nf) rule_Edges_keep nf [PT.val (Ty.int IntKind.i64).sl.sl (Md.bor true false)] [((Ty.int IntKind.u32).sl, Md.own false (Md.bor false false))] (resL (none) Try.f67) (codeOf Try.f67) ⟨next, ()⟩ = rule_Edges_p nf (fun p0 p1 v0 v1 v2 => iter nf (LC.F tab (rule_Edges_phi nf) (fun _ F => iter nf F) rule_Edges_keep 0 (rule_Edges_L0 nf)) (rule_Edges_m0 p0 p1 v0 v1 v2)) next := by kernel_rfl
  rw [h]
  simp only [rule_Edges_e0]
  rfl
def rule_Edges_F (nf : Nat) (x : denPs [.val (.sl (.sl (.int .i64))) (.bor true false)]) : Option (denL [(.sl (.int .u32), .own false (.bor false false))]) := rule_Edges_f nf x.1
def rule_Edges_C (nf : Nat) : Contract := ⟨[.val (.sl (.sl (.int .i64))) (.bor true false)], [(.sl (.int .u32), .own false (.bor false false))], rule_Edges_F nf, none⟩
theorem rule_Edges_ok : FnOK Try.prog 67 := ⟨Try.f67, codeOf Try.f67, Try.func67, by kernel_rfl, by kernel_rfl⟩
theorem rule_Edges_holds (nf : Nat) : Contract.Holds Try.prog 67 (rule_Edges_C nf) :=
  fn_holds (Φ := rule_Edges_phi nf) (keep := rule_Edges_keep) (n := nf) ⟨tabs.1, tabs.2, (ctx_cons rule_Rules_ok (rule_Rules_holds nf) ctx_nil), mixed⟩ (fn := Try.f67) ⟨Try.func67, by kernel_rfl, by kernel_rfl, by kernel_rfl⟩ (fun x => rule_Edges_eq nf x.1)

/-! codemason rule.Edge -/
def rule_Edge_phi (nf : Nat) : Nat → Option Contract := lookC [(20, way_Check_C nf), (67, rule_Edges_C nf)]
def rule_Edge_keep : Nat → List Nat := lookK []
def rule_Edge_p (nf : Nat)  (next : List (List Int)) : Option (List Int × Int × Unit) :=
  Option.bind (way_Check_f nf next) fun r =>
  bif r.fst != 0 then
    some (([], r.fst, ()))
  else
    Option.bind (rule_Edges_f nf next) fun r2 =>
    some ((r2.fst, 0, ()))
def rule_Edge_f (nf : Nat) (next : List (List Int)) : Option (List Int × Int × Unit) := rule_Edge_p nf  next
theorem rule_Edge_eq (nf : Nat) (next : List (List Int)) : runF tab (rule_Edge_phi nf) rule_Edge_keep nf [PT.val (Ty.int IntKind.i64).sl.sl (Md.bor true false)] [((Ty.int IntKind.u32).sl, Md.own false (Md.bor false false)), (Ty.int IntKind.i64, Md.bor false true)] (resL (none) Try.f37) (codeOf Try.f37) ⟨next, ()⟩ = rule_Edge_f nf next := by
  have h : runF tab (rule_Edge_phi nf) rule_Edge_keep nf [PT.val (Ty.int IntKind.i64).sl.sl (Md.bor true false)] [((Ty.int IntKind.u32).sl, Md.own false (Md.bor false false)), (Ty.int IntKind.i64, Md.bor false true)] (resL (none) Try.f37) (codeOf Try.f37) ⟨next, ()⟩ = rule_Edge_p nf  next := by kernel_rfl
  exact h
def rule_Edge_F (nf : Nat) (x : denPs [.val (.sl (.sl (.int .i64))) (.bor true false)]) : Option (denL [(.sl (.int .u32), .own false (.bor false false)), (.int .i64, .bor false true)]) := rule_Edge_f nf x.1
def rule_Edge_C (nf : Nat) : Contract := ⟨[.val (.sl (.sl (.int .i64))) (.bor true false)], [(.sl (.int .u32), .own false (.bor false false)), (.int .i64, .bor false true)], rule_Edge_F nf, none⟩
theorem rule_Edge_ok : FnOK Try.prog 37 := ⟨Try.f37, codeOf Try.f37, Try.func37, by kernel_rfl, by kernel_rfl⟩
theorem rule_Edge_holds (nf : Nat) : Contract.Holds Try.prog 37 (rule_Edge_C nf) :=
  fn_holds (Φ := rule_Edge_phi nf) (keep := rule_Edge_keep) (n := nf) ⟨tabs.1, tabs.2, (ctx_cons way_Check_ok (way_Check_holds nf) (ctx_cons rule_Edges_ok (rule_Edges_holds nf) ctx_nil)), mixed⟩ (fn := Try.f37) ⟨Try.func37, by kernel_rfl, by kernel_rfl, by kernel_rfl⟩ (fun x => rule_Edge_eq nf x.1)

/-! codemason codemasonref.Edge -/
def ref_Edge_phi (nf : Nat) : Nat → Option Contract := lookC [(35, ref_Rules_C nf)]
def ref_Edge_keep : Nat → List Nat := lookK [(2, [0, 1, 5, 6, 20, 22, 23, 24, 25]), (0, [0, 1, 5, 6])]
def ref_Edge_b0 (nf : Nat) (l2 : List (List Int) → Int → Int → Int → Int → Option (Int × Unit)) (next : List (List Int)) (i : Int) (g0 : Int → Int → Option (Int × Unit)) (s : Int) (k' : Int) : Option (Int × Unit) :=
  bif decide (k' < (↑next.length : Int)) then
    Option.bind (ref_Rules_f nf next i k') fun r =>
    bif !r.fst then
      g0 s (IntKind.i64.wrap (k' + 1))
    else
      bif inb k' next.length then
        l2 next i k' s 0
      else
        none
  else
    some ((s, ()))
def ref_Edge_b2 (nf : Nat) (next : List (List Int)) (i : Int) (k' : Int) (g0 : Int → Int → Option (Int × Unit)) (g2 : Int → Int → Option (Int × Unit)) (s2 : Int) (t25 : Int) : Option (Int × Unit) :=
  bif decide (t25 < (↑(List.length (next.getD k'.toNat [])) : Int)) then
    bif inb t25 (List.length (next.getD k'.toNat [])) then
      bif List.getD (next.getD k'.toNat []) t25.toNat 0 == i then
        bif decide (0 ≤ IntKind.u64.wrap (List.getD (next.getD k'.toNat []) t25.toNat 0)) then
          g2 (IntKind.u32.wrap (↑(BitVec.ofInt IntKind.u32.bits s2 ||| BitVec.ofInt IntKind.u32.bits (shlI IntKind.u32 1 (IntKind.u64.wrap (List.getD (next.getD k'.toNat []) t25.toNat 0)))).toNat : Int)) (IntKind.i64.wrap (t25 + 1))
        else
          none
      else
        Option.bind (ref_Rules_f nf next i (List.getD (next.getD k'.toNat []) t25.toNat 0)) fun r2 =>
        bif !r2.fst then
          bif decide (0 ≤ IntKind.u64.wrap (List.getD (next.getD k'.toNat []) t25.toNat 0)) then
            g2 (IntKind.u32.wrap (↑(BitVec.ofInt IntKind.u32.bits s2 ||| BitVec.ofInt IntKind.u32.bits (shlI IntKind.u32 1 (IntKind.u64.wrap (List.getD (next.getD k'.toNat []) t25.toNat 0)))).toNat : Int)) (IntKind.i64.wrap (t25 + 1))
          else
            none
        else
          g2 s2 (IntKind.i64.wrap (t25 + 1))
    else
      none
  else
    g0 s2 (IntKind.i64.wrap (k' + 1))
def ref_Edge_p (nf : Nat) (l0 : List (List Int) → Int → Int → Int → Option (Int × Unit)) (next : List (List Int)) (i : Int) : Option (Int × Unit) :=
  l0 next i 0 0
def ref_Edge_l2 (nf : Nat) (next : List (List Int)) (i : Int) (k' : Int) (g0 : Int → Int → Option (Int × Unit)) : Nat → Int → Int → Option (Int × Unit)
  | 0, _, _ => none
  | fu + 1, s2, t25 => ref_Edge_b2 nf  next i k' g0 (ref_Edge_l2 nf next i k' g0 fu) s2 t25
def ref_Edge_l0 (nf : Nat) (next : List (List Int)) (i : Int) : Nat → Int → Int → Option (Int × Unit)
  | 0, _, _ => none
  | fu + 1, s, k' => ref_Edge_b0 nf (fun _ _ p2 v0 v1 => ref_Edge_l2 nf next i p2 (fun s k' => ref_Edge_l0 nf next i  fu s k') nf v0 v1) next i  (ref_Edge_l0 nf next i  fu) s k'
def ref_Edge_f (nf : Nat) (next : List (List Int)) (i : Int) : Option (Int × Unit) := ref_Edge_p nf (fun p0 p1 v0 v1 => ref_Edge_l0 nf p0 p1 nf v0 v1) next i
noncomputable def ref_Edge_L0 (nf : Nat) : LC (Int × Unit) := theL (findL tab (ref_Edge_phi nf) (fun _ F => iter nf F) ref_Edge_keep 0 0 (codeOf Try.f38) (fin tab [(Ty.int IntKind.u32, Md.bor false true)] (resL (none) Try.f38)) (fun _ _ => none) (fin tab [(Ty.int IntKind.u32, Md.bor false true)] (resL (none) Try.f38)))
def ref_Edge_m0 (next : List (List Int)) (i : Int) (s : Int) (k' : Int) : St := ⟨fresh, [(0, AV.v (Ty.int IntKind.i64).sl.sl (Md.bor true false) next), (1, AV.v (Ty.int IntKind.i64) (Md.bor false true) i), (5, AV.v (Ty.int IntKind.u32) (Md.bor false true) s), (6, AV.v (Ty.int IntKind.i64) (Md.bor false true) k')]⟩
noncomputable def ref_Edge_L2 (nf : Nat) (G0 : St → Option (Int × Unit)) : LC (Int × Unit) := theL (findL tab (ref_Edge_phi nf) (fun _ F => iter nf F) ref_Edge_keep 2 0 (ref_Edge_L0 nf ).c (fun st => norm (ref_Edge_keep 0) st G0) (ref_Edge_L0 nf ).Kx (ref_Edge_L0 nf ).Kr)
def ref_Edge_m2 (next : List (List Int)) (i : Int) (k' : Int) (s2 : Int) (t25 : Int) : St := ⟨fresh, [(0, AV.v (Ty.int IntKind.i64).sl.sl (Md.bor true false) next), (1, AV.v (Ty.int IntKind.i64) (Md.bor false true) i), (5, AV.v (Ty.int IntKind.u32) (Md.bor false true) s2), (6, AV.v (Ty.int IntKind.i64) (Md.bor false true) k'), (20, AV.v (Ty.int IntKind.i64).sl.sl (Md.bor true false) next), (22, AV.rop (Ty.int IntKind.i64).sl (Md.bor true false) (next.getD k'.toNat [])), (23, AV.v (Ty.int IntKind.i64).sl (Md.bor true false) (next.getD k'.toNat [])), (24, AV.v (Ty.int IntKind.i64) (Md.bor false true) (↑(List.length (next.getD k'.toNat [])) : Int)), (25, AV.v (Ty.int IntKind.i64) (Md.bor false true) t25)]⟩
theorem ref_Edge_h2 (nf : Nat) (G0 : St → Option (Int × Unit)) (next : List (List Int)) (i : Int) (k' : Int) (fu : Nat) (s2 : Int) (t25 : Int) : iter (fu + 1) (LC.F tab (ref_Edge_phi nf) (fun _ F => iter nf F) ref_Edge_keep 2 (ref_Edge_L2 nf G0)) (ref_Edge_m2 next i k' s2 t25) = ref_Edge_b2 nf  next i k' (fun s k' => G0 (ref_Edge_m0 next i s k')) (fun s2 t25 => iter fu (LC.F tab (ref_Edge_phi nf) (fun _ F => iter nf F) ref_Edge_keep 2 (ref_Edge_L2 nf G0)) (ref_Edge_m2 next i k' s2 t25)) s2 t25 := by kernel_rfl
theorem ref_Edge_e2 (nf : Nat) (G0 : St → Option (Int × Unit)) (next : List (List Int)) (i : Int) (k' : Int) : ∀ (fu : Nat) (s2 : Int) (t25 : Int), iter fu (LC.F tab (ref_Edge_phi nf) (fun _ F => iter nf F) ref_Edge_keep 2 (ref_Edge_L2 nf G0)) (ref_Edge_m2 next i k' s2 t25) = ref_Edge_l2 nf next i k' (fun s k' => G0 (ref_Edge_m0 next i s k')) fu s2 t25 := by
  intro fu
  induction fu with
  | zero => intros; rfl
  | succ fu ih =>
    intro s2 t25
    rw [ref_Edge_h2 nf G0 next i k' fu s2 t25]
    simp only [ih]
    rfl
theorem ref_Edge_h0 (nf : Nat)  (next : List (List Int)) (i : Int) (fu : Nat) (s : Int) (k' : Int) : iter (fu + 1) (LC.F tab (ref_Edge_phi nf) (fun _ F => iter nf F) ref_Edge_keep 0 (ref_Edge_L0 nf )) (ref_Edge_m0 next i s k') = ref_Edge_b0 nf (fun _ _ p2 v0 v1 => iter nf (LC.F tab (ref_Edge_phi nf) (fun _ F => iter nf F) ref_Edge_keep 2 (ref_Edge_L2 nf (iter fu (LC.F tab (ref_Edge_phi nf) (fun _ F => iter nf F) ref_Edge_keep 0 (ref_Edge_L0 nf ))))) (ref_Edge_m2 next i p2 v0 v1)) next i  (fun s k' => iter fu (LC.F tab (ref_Edge_phi nf) (fun _ F => iter nf F) ref_Edge_keep 0 (ref_Edge_L0 nf )) (ref_Edge_m0 next i s k')) s k' := by kernel_rfl
theorem ref_Edge_e0 (nf : Nat)  (next : List (List Int)) (i : Int) : ∀ (fu : Nat) (s : Int) (k' : Int), iter fu (LC.F tab (ref_Edge_phi nf) (fun _ F => iter nf F) ref_Edge_keep 0 (ref_Edge_L0 nf )) (ref_Edge_m0 next i s k') = ref_Edge_l0 nf next i  fu s k' := by
  intro fu
  induction fu with
  | zero => intros; rfl
  | succ fu ih =>
    intro s k'
    rw [ref_Edge_h0 nf  next i fu s k']
    simp only [ih, ref_Edge_e2]
    rfl
theorem ref_Edge_eq (nf : Nat) (next : List (List Int)) (i : Int) : runF tab (ref_Edge_phi nf) ref_Edge_keep nf [PT.val (Ty.int IntKind.i64).sl.sl (Md.bor true false), PT.val (Ty.int IntKind.i64) (Md.bor true false)] [(Ty.int IntKind.u32, Md.bor false true)] (resL (none) Try.f38) (codeOf Try.f38) ⟨next, i, ()⟩ = ref_Edge_f nf next i := by
  have h : runF tab (ref_Edge_phi nf) ref_Edge_keep nf [PT.val (Ty.int IntKind.i64).sl.sl (Md.bor true false), PT.val (Ty.int IntKind.i64) (Md.bor true false)] [(Ty.int IntKind.u32, Md.bor false true)] (resL (none) Try.f38) (codeOf Try.f38) ⟨next, i, ()⟩ = ref_Edge_p nf (fun p0 p1 v0 v1 => iter nf (LC.F tab (ref_Edge_phi nf) (fun _ F => iter nf F) ref_Edge_keep 0 (ref_Edge_L0 nf)) (ref_Edge_m0 p0 p1 v0 v1)) next i := by kernel_rfl
  rw [h]
  simp only [ref_Edge_e0]
  rfl
def ref_Edge_F (nf : Nat) (x : denPs [.val (.sl (.sl (.int .i64))) (.bor true false), .val (.int .i64) (.bor true false)]) : Option (denL [(.int .u32, .bor false true)]) := ref_Edge_f nf x.1 x.2.1
def ref_Edge_C (nf : Nat) : Contract := ⟨[.val (.sl (.sl (.int .i64))) (.bor true false), .val (.int .i64) (.bor true false)], [(.int .u32, .bor false true)], ref_Edge_F nf, none⟩
theorem ref_Edge_ok : FnOK Try.prog 38 := ⟨Try.f38, codeOf Try.f38, Try.func38, by kernel_rfl, by kernel_rfl⟩
theorem ref_Edge_holds (nf : Nat) : Contract.Holds Try.prog 38 (ref_Edge_C nf) :=
  fn_holds (Φ := ref_Edge_phi nf) (keep := ref_Edge_keep) (n := nf) ⟨tabs.1, tabs.2, (ctx_cons ref_Rules_ok (ref_Rules_holds nf) ctx_nil), mixed⟩ (fn := Try.f38) ⟨Try.func38, by kernel_rfl, by kernel_rfl, by kernel_rfl⟩ (fun x => ref_Edge_eq nf x.1 x.2.1)

/-! codemason codemasonlaw.RuleEdges -/
def law_RuleEdges_phi (nf : Nat) : Nat → Option Contract := lookC [(21, ref_WayCheck_C nf), (37, rule_Edge_C nf), (38, ref_Edge_C nf)]
def law_RuleEdges_keep : Nat → List Nat := lookK [(0, [0, 3, 4, 6, 7, 9, 10])]
def law_RuleEdges_b0 (nf : Nat) (next : List (List Int)) (r : List Int × Int × Unit) (g0 : List Int → Int → Option (Bool × Unit)) (l' : List Int) (i : Int) : Option (Bool × Unit) :=
  bif decide (i < (↑l'.length : Int)) then
    bif decide (i < (↑next.length : Int)) then
      bif inb i l'.length then
        Option.bind (ref_Edge_f nf next i) fun r3 =>
        bif l'.getD i.toNat 0 != r3.fst then
          some ((false, ()))
        else
          g0 l' (IntKind.i64.wrap (i + 1))
      else
        none
    else
      bif r.snd.fst == 0 then
        some (((↑l'.length : Int) == (↑next.length : Int), ()))
      else
        some ((false, ()))
  else
    bif r.snd.fst == 0 then
      some (((↑l'.length : Int) == (↑next.length : Int), ()))
    else
      some ((false, ()))
def law_RuleEdges_p (nf : Nat) (l0 : List (List Int) → List Int × Int × Unit → List Int → Int → Option (Bool × Unit)) (next : List (List Int)) : Option (Bool × Unit) :=
  Option.bind (rule_Edge_f nf next) fun r =>
  Option.bind (ref_WayCheck_f nf next) fun r2 =>
  bif r2.fst != 0 then
    bif r.snd.fst == r2.fst then
      some (((↑(List.length r.fst) : Int) == 0, ()))
    else
      some ((false, ()))
  else
    l0 next r r.fst 0
def law_RuleEdges_l0 (nf : Nat) (next : List (List Int)) (r : List Int × Int × Unit) : Nat → List Int → Int → Option (Bool × Unit)
  | 0, _, _ => none
  | fu + 1, l', i => law_RuleEdges_b0 nf  next r  (law_RuleEdges_l0 nf next r  fu) l' i
def law_RuleEdges_f (nf : Nat) (next : List (List Int)) : Option (Bool × Unit) := law_RuleEdges_p nf (fun p0 p1 v0 v1 => law_RuleEdges_l0 nf p0 p1 nf v0 v1) next
noncomputable def law_RuleEdges_L0 (nf : Nat) : LC (Bool × Unit) := theL (findL tab (law_RuleEdges_phi nf) (fun _ F => iter nf F) law_RuleEdges_keep 0 0 (codeOf Try.f10) (fin tab [(Ty.bool, Md.bor false true)] (resL (none) Try.f10)) (fun _ _ => none) (fin tab [(Ty.bool, Md.bor false true)] (resL (none) Try.f10)))
def law_RuleEdges_m0 (next : List (List Int)) (r : List Int × Int × Unit) (l' : List Int) (i : Int) : St := ⟨fresh, [(0, AV.v (Ty.int IntKind.i64).sl.sl (Md.bor true false) next), (3, AV.ow 500003 (Ty.int IntKind.u32).sl (Md.own false (Md.bor false false)) l'), (4, AV.v (Ty.int IntKind.i64) (Md.bor false true) r.snd.fst), (6, AV.v (Ty.int IntKind.i64) (Md.bor false true) i), (7, AV.dead), (9, AV.dead), (10, AV.dead)]⟩
theorem law_RuleEdges_h0 (nf : Nat)  (next : List (List Int)) (r : List Int × Int × Unit) (fu : Nat) (l' : List Int) (i : Int) : iter (fu + 1) (LC.F tab (law_RuleEdges_phi nf) (fun _ F => iter nf F) law_RuleEdges_keep 0 (law_RuleEdges_L0 nf )) (law_RuleEdges_m0 next r l' i) = law_RuleEdges_b0 nf  next r  (fun l' i => iter fu (LC.F tab (law_RuleEdges_phi nf) (fun _ F => iter nf F) law_RuleEdges_keep 0 (law_RuleEdges_L0 nf )) (law_RuleEdges_m0 next r l' i)) l' i := by kernel_rfl
theorem law_RuleEdges_e0 (nf : Nat)  (next : List (List Int)) (r : List Int × Int × Unit) : ∀ (fu : Nat) (l' : List Int) (i : Int), iter fu (LC.F tab (law_RuleEdges_phi nf) (fun _ F => iter nf F) law_RuleEdges_keep 0 (law_RuleEdges_L0 nf )) (law_RuleEdges_m0 next r l' i) = law_RuleEdges_l0 nf next r  fu l' i := by
  intro fu
  induction fu with
  | zero => intros; rfl
  | succ fu ih =>
    intro l' i
    rw [law_RuleEdges_h0 nf  next r fu l' i]
    simp only [ih]
    rfl
theorem law_RuleEdges_eq (nf : Nat) (next : List (List Int)) : runF tab (law_RuleEdges_phi nf) law_RuleEdges_keep nf [PT.val (Ty.int IntKind.i64).sl.sl (Md.bor true false)] [(Ty.bool, Md.bor false true)] (resL (none) Try.f10) (codeOf Try.f10) ⟨next, ()⟩ = law_RuleEdges_f nf next := by
  have h : runF tab (law_RuleEdges_phi nf) law_RuleEdges_keep nf [PT.val (Ty.int IntKind.i64).sl.sl (Md.bor true false)] [(Ty.bool, Md.bor false true)] (resL (none) Try.f10) (codeOf Try.f10) ⟨next, ()⟩ = law_RuleEdges_p nf (fun p0 p1 v0 v1 => iter nf (LC.F tab (law_RuleEdges_phi nf) (fun _ F => iter nf F) law_RuleEdges_keep 0 (law_RuleEdges_L0 nf)) (law_RuleEdges_m0 p0 p1 v0 v1)) next := by kernel_rfl
  rw [h]
  simp only [law_RuleEdges_e0]
  rfl
def law_RuleEdges_F (nf : Nat) (x : denPs [.val (.sl (.sl (.int .i64))) (.bor true false)]) : Option (denL [(.bool, .bor false true)]) := law_RuleEdges_f nf x.1
def law_RuleEdges_C (nf : Nat) : Contract := ⟨[.val (.sl (.sl (.int .i64))) (.bor true false)], [(.bool, .bor false true)], law_RuleEdges_F nf, none⟩
theorem law_RuleEdges_ok : FnOK Try.prog 10 := ⟨Try.f10, codeOf Try.f10, Try.func10, by kernel_rfl, by kernel_rfl⟩
theorem law_RuleEdges_holds (nf : Nat) : Contract.Holds Try.prog 10 (law_RuleEdges_C nf) :=
  fn_holds (Φ := law_RuleEdges_phi nf) (keep := law_RuleEdges_keep) (n := nf) ⟨tabs.1, tabs.2, (ctx_cons ref_WayCheck_ok (ref_WayCheck_holds nf) (ctx_cons rule_Edge_ok (rule_Edge_holds nf) (ctx_cons ref_Edge_ok (ref_Edge_holds nf) ctx_nil))), mixed⟩ (fn := Try.f10) ⟨Try.func10, by kernel_rfl, by kernel_rfl, by kernel_rfl⟩ (fun x => law_RuleEdges_eq nf x.1)

/-! codemason rule.Meet -/
def rule_Meet_phi (nf : Nat) : Nat → Option Contract := lookC [(37, rule_Edge_C nf)]
def rule_Meet_keep : Nat → List Nat := lookK [(2, [1, 6, 8, 10, 13, 15, 16, 28, 29, 30]), (0, [1, 6, 8, 9, 13, 15, 16])]
def rule_Meet_b0 (nf : Nat) (l2 : Int → Int → List Int → List Int → Int → Int → Option (Int × Int × Unit)) (s : Int) (g0 : List Int → Int → Bool → Option (Int × Int × Unit)) (l' : List Int) (out : Int) (more : Bool) : Option (Int × Int × Unit) :=
  bif more then
    l2 s out l' l' out 0
  else
    some ((out, 0, ()))
def rule_Meet_b2 (nf : Nat) (s : Int) (out : Int) (l' : List Int) (g0 : List Int → Int → Bool → Option (Int × Int × Unit)) (g2 : List Int → Int → Int → Option (Int × Int × Unit)) (l'2 : List Int) (out2 : Int) (t30 : Int) : Option (Int × Int × Unit) :=
  bif decide (t30 < (↑l'.length : Int)) then
    bif inb t30 l'2.length then
      bif decide (0 ≤ t30) then
        bif IntKind.u32.wrap (↑(BitVec.ofInt IntKind.u32.bits (shrI IntKind.u32 (IntKind.u32.wrap (↑(BitVec.ofInt IntKind.u32.bits s ||| BitVec.ofInt IntKind.u32.bits out2).toNat : Int)) t30) &&& BitVec.ofInt IntKind.u32.bits 1).toNat : Int) == 1 then
          g2 l'2 (IntKind.u32.wrap (↑(BitVec.ofInt IntKind.u32.bits out2 ||| BitVec.ofInt IntKind.u32.bits (l'2.getD t30.toNat 0)).toNat : Int)) (IntKind.i64.wrap (t30 + 1))
        else
          g2 l'2 out2 (IntKind.i64.wrap (t30 + 1))
      else
        none
    else
      none
  else
    g0 l'2 out2 (out2 != out)
def rule_Meet_p (nf : Nat) (l0 : Int → List Int → Int → Bool → Option (Int × Int × Unit)) (next : List (List Int)) (s : Int) : Option (Int × Int × Unit) :=
  Option.bind (rule_Edge_f nf next) fun r =>
  bif r.snd.fst != 0 then
    some ((0, r.snd.fst, ()))
  else
    bif shrI IntKind.u32 s (↑next.length : Int) != 0 then
      some ((0, 4, ()))
    else
      l0 s r.fst 0 true
def rule_Meet_l2 (nf : Nat) (s : Int) (out : Int) (l' : List Int) (g0 : List Int → Int → Bool → Option (Int × Int × Unit)) : Nat → List Int → Int → Int → Option (Int × Int × Unit)
  | 0, _, _, _ => none
  | fu + 1, l'2, out2, t30 => rule_Meet_b2 nf  s out l' g0 (rule_Meet_l2 nf s out l' g0 fu) l'2 out2 t30
def rule_Meet_l0 (nf : Nat) (s : Int) : Nat → List Int → Int → Bool → Option (Int × Int × Unit)
  | 0, _, _, _ => none
  | fu + 1, l', out, more => rule_Meet_b0 nf (fun _ p1 p2 v0 v1 v2 => rule_Meet_l2 nf s p1 p2 (fun l' out more => rule_Meet_l0 nf s  fu l' out more) nf v0 v1 v2) s  (rule_Meet_l0 nf s  fu) l' out more
def rule_Meet_f (nf : Nat) (next : List (List Int)) (s : Int) : Option (Int × Int × Unit) := rule_Meet_p nf (fun p0 v0 v1 v2 => rule_Meet_l0 nf p0 nf v0 v1 v2) next s
noncomputable def rule_Meet_L0 (nf : Nat) : LC (Int × Int × Unit) := theL (findL tab (rule_Meet_phi nf) (fun _ F => iter nf F) rule_Meet_keep 0 0 (codeOf Try.f39) (fin tab [(Ty.int IntKind.u32, Md.bor false true), (Ty.int IntKind.i64, Md.bor false true)] (resL (none) Try.f39)) (fun _ _ => none) (fin tab [(Ty.int IntKind.u32, Md.bor false true), (Ty.int IntKind.i64, Md.bor false true)] (resL (none) Try.f39)))
def rule_Meet_m0 (s : Int) (l' : List Int) (out : Int) (more : Bool) : St := ⟨fresh, [(1, AV.v (Ty.int IntKind.u32) (Md.bor false true) s), (6, AV.ow 500006 (Ty.int IntKind.u32).sl (Md.own false (Md.bor false false)) l'), (8, AV.v (Ty.int IntKind.u32) (Md.bor false true) out), (9, AV.v Ty.bool (Md.bor false true) more), (13, AV.dead), (15, AV.dead), (16, AV.dead)]⟩
noncomputable def rule_Meet_L2 (nf : Nat) (G0 : St → Option (Int × Int × Unit)) : LC (Int × Int × Unit) := theL (findL tab (rule_Meet_phi nf) (fun _ F => iter nf F) rule_Meet_keep 2 0 (rule_Meet_L0 nf ).c (fun st => norm (rule_Meet_keep 0) st G0) (rule_Meet_L0 nf ).Kx (rule_Meet_L0 nf ).Kr)
def rule_Meet_m2 (s : Int) (out : Int) (l' : List Int) (l'2 : List Int) (out2 : Int) (t30 : Int) : St := ⟨fresh, [(1, AV.v (Ty.int IntKind.u32) (Md.bor false true) s), (6, AV.ow 500006 (Ty.int IntKind.u32).sl (Md.own false (Md.bor false false)) l'2), (8, AV.v (Ty.int IntKind.u32) (Md.bor false true) out2), (10, AV.v (Ty.int IntKind.u32) (Md.bor false true) out), (13, AV.dead), (15, AV.dead), (16, AV.dead), (28, AV.al 6 500006 []), (29, AV.v (Ty.int IntKind.i64) (Md.bor false true) (↑l'.length : Int)), (30, AV.v (Ty.int IntKind.i64) (Md.bor false true) t30)]⟩
theorem rule_Meet_h2 (nf : Nat) (G0 : St → Option (Int × Int × Unit)) (s : Int) (out : Int) (l' : List Int) (fu : Nat) (l'2 : List Int) (out2 : Int) (t30 : Int) : iter (fu + 1) (LC.F tab (rule_Meet_phi nf) (fun _ F => iter nf F) rule_Meet_keep 2 (rule_Meet_L2 nf G0)) (rule_Meet_m2 s out l' l'2 out2 t30) = rule_Meet_b2 nf  s out l' (fun l' out more => G0 (rule_Meet_m0 s l' out more)) (fun l'2 out2 t30 => iter fu (LC.F tab (rule_Meet_phi nf) (fun _ F => iter nf F) rule_Meet_keep 2 (rule_Meet_L2 nf G0)) (rule_Meet_m2 s out l' l'2 out2 t30)) l'2 out2 t30 := by kernel_rfl
theorem rule_Meet_e2 (nf : Nat) (G0 : St → Option (Int × Int × Unit)) (s : Int) (out : Int) (l' : List Int) : ∀ (fu : Nat) (l'2 : List Int) (out2 : Int) (t30 : Int), iter fu (LC.F tab (rule_Meet_phi nf) (fun _ F => iter nf F) rule_Meet_keep 2 (rule_Meet_L2 nf G0)) (rule_Meet_m2 s out l' l'2 out2 t30) = rule_Meet_l2 nf s out l' (fun l' out more => G0 (rule_Meet_m0 s l' out more)) fu l'2 out2 t30 := by
  intro fu
  induction fu with
  | zero => intros; rfl
  | succ fu ih =>
    intro l'2 out2 t30
    rw [rule_Meet_h2 nf G0 s out l' fu l'2 out2 t30]
    simp only [ih]
    rfl
theorem rule_Meet_h0 (nf : Nat)  (s : Int) (fu : Nat) (l' : List Int) (out : Int) (more : Bool) : iter (fu + 1) (LC.F tab (rule_Meet_phi nf) (fun _ F => iter nf F) rule_Meet_keep 0 (rule_Meet_L0 nf )) (rule_Meet_m0 s l' out more) = rule_Meet_b0 nf (fun _ p1 p2 v0 v1 v2 => iter nf (LC.F tab (rule_Meet_phi nf) (fun _ F => iter nf F) rule_Meet_keep 2 (rule_Meet_L2 nf (iter fu (LC.F tab (rule_Meet_phi nf) (fun _ F => iter nf F) rule_Meet_keep 0 (rule_Meet_L0 nf ))))) (rule_Meet_m2 s p1 p2 v0 v1 v2)) s  (fun l' out more => iter fu (LC.F tab (rule_Meet_phi nf) (fun _ F => iter nf F) rule_Meet_keep 0 (rule_Meet_L0 nf )) (rule_Meet_m0 s l' out more)) l' out more := by kernel_rfl
theorem rule_Meet_e0 (nf : Nat)  (s : Int) : ∀ (fu : Nat) (l' : List Int) (out : Int) (more : Bool), iter fu (LC.F tab (rule_Meet_phi nf) (fun _ F => iter nf F) rule_Meet_keep 0 (rule_Meet_L0 nf )) (rule_Meet_m0 s l' out more) = rule_Meet_l0 nf s  fu l' out more := by
  intro fu
  induction fu with
  | zero => intros; rfl
  | succ fu ih =>
    intro l' out more
    rw [rule_Meet_h0 nf  s fu l' out more]
    simp only [ih, rule_Meet_e2]
    rfl
theorem rule_Meet_eq (nf : Nat) (next : List (List Int)) (s : Int) : runF tab (rule_Meet_phi nf) rule_Meet_keep nf [PT.val (Ty.int IntKind.i64).sl.sl (Md.bor true false), PT.val (Ty.int IntKind.u32) (Md.bor true false)] [(Ty.int IntKind.u32, Md.bor false true), (Ty.int IntKind.i64, Md.bor false true)] (resL (none) Try.f39) (codeOf Try.f39) ⟨next, s, ()⟩ = rule_Meet_f nf next s := by
  have h : runF tab (rule_Meet_phi nf) rule_Meet_keep nf [PT.val (Ty.int IntKind.i64).sl.sl (Md.bor true false), PT.val (Ty.int IntKind.u32) (Md.bor true false)] [(Ty.int IntKind.u32, Md.bor false true), (Ty.int IntKind.i64, Md.bor false true)] (resL (none) Try.f39) (codeOf Try.f39) ⟨next, s, ()⟩ = rule_Meet_p nf (fun p0 v0 v1 v2 => iter nf (LC.F tab (rule_Meet_phi nf) (fun _ F => iter nf F) rule_Meet_keep 0 (rule_Meet_L0 nf)) (rule_Meet_m0 p0 v0 v1 v2)) next s := by kernel_rfl
  rw [h]
  simp only [rule_Meet_e0]
  rfl
def rule_Meet_F (nf : Nat) (x : denPs [.val (.sl (.sl (.int .i64))) (.bor true false), .val (.int .u32) (.bor true false)]) : Option (denL [(.int .u32, .bor false true), (.int .i64, .bor false true)]) := rule_Meet_f nf x.1 x.2.1
def rule_Meet_C (nf : Nat) : Contract := ⟨[.val (.sl (.sl (.int .i64))) (.bor true false), .val (.int .u32) (.bor true false)], [(.int .u32, .bor false true), (.int .i64, .bor false true)], rule_Meet_F nf, none⟩
theorem rule_Meet_ok : FnOK Try.prog 39 := ⟨Try.f39, codeOf Try.f39, Try.func39, by kernel_rfl, by kernel_rfl⟩
theorem rule_Meet_holds (nf : Nat) : Contract.Holds Try.prog 39 (rule_Meet_C nf) :=
  fn_holds (Φ := rule_Meet_phi nf) (keep := rule_Meet_keep) (n := nf) ⟨tabs.1, tabs.2, (ctx_cons rule_Edge_ok (rule_Edge_holds nf) ctx_nil), mixed⟩ (fn := Try.f39) ⟨Try.func39, by kernel_rfl, by kernel_rfl, by kernel_rfl⟩ (fun x => rule_Meet_eq nf x.1 x.2.1)

/-! codemason codemasonlaw.RuleMeets -/
def law_RuleMeets_phi (nf : Nat) : Nat → Option Contract := lookC [(21, ref_WayCheck_C nf), (29, ref_Bit_C nf), (30, ref_Fits_C nf), (38, ref_Edge_C nf), (39, rule_Meet_C nf)]
def law_RuleMeets_keep : Nat → List Nat := lookK [(2, [0, 1, 5, 6, 8, 9, 10]), (0, [0, 1, 5, 6, 8, 9])]
def law_RuleMeets_b0 (nf : Nat) (l2 : List (List Int) → Int → Int × Int × Unit → Int → Int → Int → Option (Bool × Unit)) (next : List (List Int)) (s : Int) (r : Int × Int × Unit) (g0 : Int → Int → Option (Bool × Unit)) (want : Int) (k' : Int) : Option (Bool × Unit) :=
  bif decide (k' ≤ (↑next.length : Int)) then
    l2 next s r k' want 0
  else
    bif r.snd.fst == 0 then
      some ((r.fst == want, ()))
    else
      some ((false, ()))
def law_RuleMeets_b2 (nf : Nat) (next : List (List Int)) (s : Int) (r : Int × Int × Unit) (k' : Int) (g0 : Int → Int → Option (Bool × Unit)) (g2 : Int → Int → Option (Bool × Unit)) (want2 : Int) (i : Int) : Option (Bool × Unit) :=
  bif decide (i < (↑next.length : Int)) then
    Option.bind (ref_Bit_f nf (IntKind.u32.wrap (↑(BitVec.ofInt IntKind.u32.bits s ||| BitVec.ofInt IntKind.u32.bits want2).toNat : Int)) i) fun r4 =>
    bif r4.fst then
      Option.bind (ref_Edge_f nf next i) fun r5 =>
      g2 (IntKind.u32.wrap (↑(BitVec.ofInt IntKind.u32.bits want2 ||| BitVec.ofInt IntKind.u32.bits r5.fst).toNat : Int)) (IntKind.i64.wrap (i + 1))
    else
      g2 want2 (IntKind.i64.wrap (i + 1))
  else
    g0 want2 (IntKind.i64.wrap (k' + 1))
def law_RuleMeets_p (nf : Nat) (l0 : List (List Int) → Int → Int × Int × Unit → Int → Int → Option (Bool × Unit)) (next : List (List Int)) (s : Int) : Option (Bool × Unit) :=
  Option.bind (rule_Meet_f nf next s) fun r =>
  Option.bind (ref_WayCheck_f nf next) fun r2 =>
  bif r2.fst == 0 then
    Option.bind (ref_Fits_f nf ((↑next.length : Int)) s) fun r3 =>
    bif !r3.fst then
      bif r.snd.fst == 4 then
        some ((r.fst == 0, ()))
      else
        some ((false, ()))
    else
      bif r2.fst != 0 then
        bif r.snd.fst == r2.fst then
          some ((r.fst == 0, ()))
        else
          some ((false, ()))
      else
        l0 next s r 0 0
  else
    bif r2.fst != 0 then
      bif r.snd.fst == r2.fst then
        some ((r.fst == 0, ()))
      else
        some ((false, ()))
    else
      l0 next s r 0 0
def law_RuleMeets_l2 (nf : Nat) (next : List (List Int)) (s : Int) (r : Int × Int × Unit) (k' : Int) (g0 : Int → Int → Option (Bool × Unit)) : Nat → Int → Int → Option (Bool × Unit)
  | 0, _, _ => none
  | fu + 1, want2, i => law_RuleMeets_b2 nf  next s r k' g0 (law_RuleMeets_l2 nf next s r k' g0 fu) want2 i
def law_RuleMeets_l0 (nf : Nat) (next : List (List Int)) (s : Int) (r : Int × Int × Unit) : Nat → Int → Int → Option (Bool × Unit)
  | 0, _, _ => none
  | fu + 1, want, k' => law_RuleMeets_b0 nf (fun _ _ _ p3 v0 v1 => law_RuleMeets_l2 nf next s r p3 (fun want k' => law_RuleMeets_l0 nf next s r  fu want k') nf v0 v1) next s r  (law_RuleMeets_l0 nf next s r  fu) want k'
def law_RuleMeets_f (nf : Nat) (next : List (List Int)) (s : Int) : Option (Bool × Unit) := law_RuleMeets_p nf (fun p0 p1 p2 v0 v1 => law_RuleMeets_l0 nf p0 p1 p2 nf v0 v1) next s
noncomputable def law_RuleMeets_L0 (nf : Nat) : LC (Bool × Unit) := theL (findL tab (law_RuleMeets_phi nf) (fun _ F => iter nf F) law_RuleMeets_keep 0 0 (codeOf Try.f11) (fin tab [(Ty.bool, Md.bor false true)] (resL (none) Try.f11)) (fun _ _ => none) (fin tab [(Ty.bool, Md.bor false true)] (resL (none) Try.f11)))
def law_RuleMeets_m0 (next : List (List Int)) (s : Int) (r : Int × Int × Unit) (want : Int) (k' : Int) : St := ⟨fresh, [(0, AV.v (Ty.int IntKind.i64).sl.sl (Md.bor true false) next), (1, AV.v (Ty.int IntKind.u32) (Md.bor false true) s), (5, AV.v (Ty.int IntKind.u32) (Md.bor false true) r.fst), (6, AV.v (Ty.int IntKind.i64) (Md.bor false true) r.snd.fst), (8, AV.v (Ty.int IntKind.u32) (Md.bor false true) want), (9, AV.v (Ty.int IntKind.i64) (Md.bor false true) k')]⟩
noncomputable def law_RuleMeets_L2 (nf : Nat) (G0 : St → Option (Bool × Unit)) : LC (Bool × Unit) := theL (findL tab (law_RuleMeets_phi nf) (fun _ F => iter nf F) law_RuleMeets_keep 2 0 (law_RuleMeets_L0 nf ).c (fun st => norm (law_RuleMeets_keep 0) st G0) (law_RuleMeets_L0 nf ).Kx (law_RuleMeets_L0 nf ).Kr)
def law_RuleMeets_m2 (next : List (List Int)) (s : Int) (r : Int × Int × Unit) (k' : Int) (want2 : Int) (i : Int) : St := ⟨fresh, [(0, AV.v (Ty.int IntKind.i64).sl.sl (Md.bor true false) next), (1, AV.v (Ty.int IntKind.u32) (Md.bor false true) s), (5, AV.v (Ty.int IntKind.u32) (Md.bor false true) r.fst), (6, AV.v (Ty.int IntKind.i64) (Md.bor false true) r.snd.fst), (8, AV.v (Ty.int IntKind.u32) (Md.bor false true) want2), (9, AV.v (Ty.int IntKind.i64) (Md.bor false true) k'), (10, AV.v (Ty.int IntKind.i64) (Md.bor false true) i)]⟩
theorem law_RuleMeets_h2 (nf : Nat) (G0 : St → Option (Bool × Unit)) (next : List (List Int)) (s : Int) (r : Int × Int × Unit) (k' : Int) (fu : Nat) (want2 : Int) (i : Int) : iter (fu + 1) (LC.F tab (law_RuleMeets_phi nf) (fun _ F => iter nf F) law_RuleMeets_keep 2 (law_RuleMeets_L2 nf G0)) (law_RuleMeets_m2 next s r k' want2 i) = law_RuleMeets_b2 nf  next s r k' (fun want k' => G0 (law_RuleMeets_m0 next s r want k')) (fun want2 i => iter fu (LC.F tab (law_RuleMeets_phi nf) (fun _ F => iter nf F) law_RuleMeets_keep 2 (law_RuleMeets_L2 nf G0)) (law_RuleMeets_m2 next s r k' want2 i)) want2 i := by kernel_rfl
theorem law_RuleMeets_e2 (nf : Nat) (G0 : St → Option (Bool × Unit)) (next : List (List Int)) (s : Int) (r : Int × Int × Unit) (k' : Int) : ∀ (fu : Nat) (want2 : Int) (i : Int), iter fu (LC.F tab (law_RuleMeets_phi nf) (fun _ F => iter nf F) law_RuleMeets_keep 2 (law_RuleMeets_L2 nf G0)) (law_RuleMeets_m2 next s r k' want2 i) = law_RuleMeets_l2 nf next s r k' (fun want k' => G0 (law_RuleMeets_m0 next s r want k')) fu want2 i := by
  intro fu
  induction fu with
  | zero => intros; rfl
  | succ fu ih =>
    intro want2 i
    rw [law_RuleMeets_h2 nf G0 next s r k' fu want2 i]
    simp only [ih]
    rfl
theorem law_RuleMeets_h0 (nf : Nat)  (next : List (List Int)) (s : Int) (r : Int × Int × Unit) (fu : Nat) (want : Int) (k' : Int) : iter (fu + 1) (LC.F tab (law_RuleMeets_phi nf) (fun _ F => iter nf F) law_RuleMeets_keep 0 (law_RuleMeets_L0 nf )) (law_RuleMeets_m0 next s r want k') = law_RuleMeets_b0 nf (fun _ _ _ p3 v0 v1 => iter nf (LC.F tab (law_RuleMeets_phi nf) (fun _ F => iter nf F) law_RuleMeets_keep 2 (law_RuleMeets_L2 nf (iter fu (LC.F tab (law_RuleMeets_phi nf) (fun _ F => iter nf F) law_RuleMeets_keep 0 (law_RuleMeets_L0 nf ))))) (law_RuleMeets_m2 next s r p3 v0 v1)) next s r  (fun want k' => iter fu (LC.F tab (law_RuleMeets_phi nf) (fun _ F => iter nf F) law_RuleMeets_keep 0 (law_RuleMeets_L0 nf )) (law_RuleMeets_m0 next s r want k')) want k' := by kernel_rfl
theorem law_RuleMeets_e0 (nf : Nat)  (next : List (List Int)) (s : Int) (r : Int × Int × Unit) : ∀ (fu : Nat) (want : Int) (k' : Int), iter fu (LC.F tab (law_RuleMeets_phi nf) (fun _ F => iter nf F) law_RuleMeets_keep 0 (law_RuleMeets_L0 nf )) (law_RuleMeets_m0 next s r want k') = law_RuleMeets_l0 nf next s r  fu want k' := by
  intro fu
  induction fu with
  | zero => intros; rfl
  | succ fu ih =>
    intro want k'
    rw [law_RuleMeets_h0 nf  next s r fu want k']
    simp only [ih, law_RuleMeets_e2]
    rfl
theorem law_RuleMeets_eq (nf : Nat) (next : List (List Int)) (s : Int) : runF tab (law_RuleMeets_phi nf) law_RuleMeets_keep nf [PT.val (Ty.int IntKind.i64).sl.sl (Md.bor true false), PT.val (Ty.int IntKind.u32) (Md.bor true false)] [(Ty.bool, Md.bor false true)] (resL (none) Try.f11) (codeOf Try.f11) ⟨next, s, ()⟩ = law_RuleMeets_f nf next s := by
  have h : runF tab (law_RuleMeets_phi nf) law_RuleMeets_keep nf [PT.val (Ty.int IntKind.i64).sl.sl (Md.bor true false), PT.val (Ty.int IntKind.u32) (Md.bor true false)] [(Ty.bool, Md.bor false true)] (resL (none) Try.f11) (codeOf Try.f11) ⟨next, s, ()⟩ = law_RuleMeets_p nf (fun p0 p1 p2 v0 v1 => iter nf (LC.F tab (law_RuleMeets_phi nf) (fun _ F => iter nf F) law_RuleMeets_keep 0 (law_RuleMeets_L0 nf)) (law_RuleMeets_m0 p0 p1 p2 v0 v1)) next s := by kernel_rfl
  rw [h]
  simp only [law_RuleMeets_e0]
  rfl
def law_RuleMeets_F (nf : Nat) (x : denPs [.val (.sl (.sl (.int .i64))) (.bor true false), .val (.int .u32) (.bor true false)]) : Option (denL [(.bool, .bor false true)]) := law_RuleMeets_f nf x.1 x.2.1
def law_RuleMeets_C (nf : Nat) : Contract := ⟨[.val (.sl (.sl (.int .i64))) (.bor true false), .val (.int .u32) (.bor true false)], [(.bool, .bor false true)], law_RuleMeets_F nf, none⟩
theorem law_RuleMeets_ok : FnOK Try.prog 11 := ⟨Try.f11, codeOf Try.f11, Try.func11, by kernel_rfl, by kernel_rfl⟩
theorem law_RuleMeets_holds (nf : Nat) : Contract.Holds Try.prog 11 (law_RuleMeets_C nf) :=
  fn_holds (Φ := law_RuleMeets_phi nf) (keep := law_RuleMeets_keep) (n := nf) ⟨tabs.1, tabs.2, (ctx_cons ref_WayCheck_ok (ref_WayCheck_holds nf) (ctx_cons ref_Bit_ok (ref_Bit_holds nf) (ctx_cons ref_Fits_ok (ref_Fits_holds nf) (ctx_cons ref_Edge_ok (ref_Edge_holds nf) (ctx_cons rule_Meet_ok (rule_Meet_holds nf) ctx_nil))))), mixed⟩ (fn := Try.f11) ⟨Try.func11, by kernel_rfl, by kernel_rfl, by kernel_rfl⟩ (fun x => law_RuleMeets_eq nf x.1 x.2.1)

/-! math bits.OnesCount32 -/
def bits_OnesCount32_phi (nf : Nat) : Nat → Option Contract := lookC []
def bits_OnesCount32_keep : Nat → List Nat := lookK []
def bits_OnesCount32_p (nf : Nat)  (x : Int) : Option (Int × Unit) :=
  bif inb (shrI IntKind.u32 x 24) [0, 1, 1, 2, 1, 2, 2, 3, 1, 2, 2, 3, 2, 3, 3, 4, 1, 2, 2, 3, 2, 3, 3, 4, 2, 3, 3, 4, 3, 4, 4, 5, 1, 2, 2, 3, 2, 3, 3, 4, 2, 3, 3, 4, 3, 4, 4, 5, 2, 3, 3, 4, 3, 4, 4, 5, 3, 4, 4, 5, 4, 5, 5, 6, 1, 2, 2, 3, 2, 3, 3, 4, 2, 3, 3, 4, 3, 4, 4, 5, 2, 3, 3, 4, 3, 4, 4, 5, 3, 4, 4, 5, 4, 5, 5, 6, 2, 3, 3, 4, 3, 4, 4, 5, 3, 4, 4, 5, 4, 5, 5, 6, 3, 4, 4, 5, 4, 5, 5, 6, 4, 5, 5, 6, 5, 6, 6, 7, 1, 2, 2, 3, 2, 3, 3, 4, 2, 3, 3, 4, 3, 4, 4, 5, 2, 3, 3, 4, 3, 4, 4, 5, 3, 4, 4, 5, 4, 5, 5, 6, 2, 3, 3, 4, 3, 4, 4, 5, 3, 4, 4, 5, 4, 5, 5, 6, 3, 4, 4, 5, 4, 5, 5, 6, 4, 5, 5, 6, 5, 6, 6, 7, 2, 3, 3, 4, 3, 4, 4, 5, 3, 4, 4, 5, 4, 5, 5, 6, 3, 4, 4, 5, 4, 5, 5, 6, 4, 5, 5, 6, 5, 6, 6, 7, 3, 4, 4, 5, 4, 5, 5, 6, 4, 5, 5, 6, 5, 6, 6, 7, 4, 5, 5, 6, 5, 6, 6, 7, 5, 6, 6, 7, 6, 7, 7, 8].length then
    bif inb (IntKind.u32.wrap (↑(BitVec.ofInt IntKind.u32.bits (shrI IntKind.u32 x 16) &&& BitVec.ofInt IntKind.u32.bits 255).toNat : Int)) [0, 1, 1, 2, 1, 2, 2, 3, 1, 2, 2, 3, 2, 3, 3, 4, 1, 2, 2, 3, 2, 3, 3, 4, 2, 3, 3, 4, 3, 4, 4, 5, 1, 2, 2, 3, 2, 3, 3, 4, 2, 3, 3, 4, 3, 4, 4, 5, 2, 3, 3, 4, 3, 4, 4, 5, 3, 4, 4, 5, 4, 5, 5, 6, 1, 2, 2, 3, 2, 3, 3, 4, 2, 3, 3, 4, 3, 4, 4, 5, 2, 3, 3, 4, 3, 4, 4, 5, 3, 4, 4, 5, 4, 5, 5, 6, 2, 3, 3, 4, 3, 4, 4, 5, 3, 4, 4, 5, 4, 5, 5, 6, 3, 4, 4, 5, 4, 5, 5, 6, 4, 5, 5, 6, 5, 6, 6, 7, 1, 2, 2, 3, 2, 3, 3, 4, 2, 3, 3, 4, 3, 4, 4, 5, 2, 3, 3, 4, 3, 4, 4, 5, 3, 4, 4, 5, 4, 5, 5, 6, 2, 3, 3, 4, 3, 4, 4, 5, 3, 4, 4, 5, 4, 5, 5, 6, 3, 4, 4, 5, 4, 5, 5, 6, 4, 5, 5, 6, 5, 6, 6, 7, 2, 3, 3, 4, 3, 4, 4, 5, 3, 4, 4, 5, 4, 5, 5, 6, 3, 4, 4, 5, 4, 5, 5, 6, 4, 5, 5, 6, 5, 6, 6, 7, 3, 4, 4, 5, 4, 5, 5, 6, 4, 5, 5, 6, 5, 6, 6, 7, 4, 5, 5, 6, 5, 6, 6, 7, 5, 6, 6, 7, 6, 7, 7, 8].length then
      bif inb (IntKind.u32.wrap (↑(BitVec.ofInt IntKind.u32.bits (shrI IntKind.u32 x 8) &&& BitVec.ofInt IntKind.u32.bits 255).toNat : Int)) [0, 1, 1, 2, 1, 2, 2, 3, 1, 2, 2, 3, 2, 3, 3, 4, 1, 2, 2, 3, 2, 3, 3, 4, 2, 3, 3, 4, 3, 4, 4, 5, 1, 2, 2, 3, 2, 3, 3, 4, 2, 3, 3, 4, 3, 4, 4, 5, 2, 3, 3, 4, 3, 4, 4, 5, 3, 4, 4, 5, 4, 5, 5, 6, 1, 2, 2, 3, 2, 3, 3, 4, 2, 3, 3, 4, 3, 4, 4, 5, 2, 3, 3, 4, 3, 4, 4, 5, 3, 4, 4, 5, 4, 5, 5, 6, 2, 3, 3, 4, 3, 4, 4, 5, 3, 4, 4, 5, 4, 5, 5, 6, 3, 4, 4, 5, 4, 5, 5, 6, 4, 5, 5, 6, 5, 6, 6, 7, 1, 2, 2, 3, 2, 3, 3, 4, 2, 3, 3, 4, 3, 4, 4, 5, 2, 3, 3, 4, 3, 4, 4, 5, 3, 4, 4, 5, 4, 5, 5, 6, 2, 3, 3, 4, 3, 4, 4, 5, 3, 4, 4, 5, 4, 5, 5, 6, 3, 4, 4, 5, 4, 5, 5, 6, 4, 5, 5, 6, 5, 6, 6, 7, 2, 3, 3, 4, 3, 4, 4, 5, 3, 4, 4, 5, 4, 5, 5, 6, 3, 4, 4, 5, 4, 5, 5, 6, 4, 5, 5, 6, 5, 6, 6, 7, 3, 4, 4, 5, 4, 5, 5, 6, 4, 5, 5, 6, 5, 6, 6, 7, 4, 5, 5, 6, 5, 6, 6, 7, 5, 6, 6, 7, 6, 7, 7, 8].length then
        bif inb (IntKind.u32.wrap (↑(BitVec.ofInt IntKind.u32.bits x &&& BitVec.ofInt IntKind.u32.bits 255).toNat : Int)) [0, 1, 1, 2, 1, 2, 2, 3, 1, 2, 2, 3, 2, 3, 3, 4, 1, 2, 2, 3, 2, 3, 3, 4, 2, 3, 3, 4, 3, 4, 4, 5, 1, 2, 2, 3, 2, 3, 3, 4, 2, 3, 3, 4, 3, 4, 4, 5, 2, 3, 3, 4, 3, 4, 4, 5, 3, 4, 4, 5, 4, 5, 5, 6, 1, 2, 2, 3, 2, 3, 3, 4, 2, 3, 3, 4, 3, 4, 4, 5, 2, 3, 3, 4, 3, 4, 4, 5, 3, 4, 4, 5, 4, 5, 5, 6, 2, 3, 3, 4, 3, 4, 4, 5, 3, 4, 4, 5, 4, 5, 5, 6, 3, 4, 4, 5, 4, 5, 5, 6, 4, 5, 5, 6, 5, 6, 6, 7, 1, 2, 2, 3, 2, 3, 3, 4, 2, 3, 3, 4, 3, 4, 4, 5, 2, 3, 3, 4, 3, 4, 4, 5, 3, 4, 4, 5, 4, 5, 5, 6, 2, 3, 3, 4, 3, 4, 4, 5, 3, 4, 4, 5, 4, 5, 5, 6, 3, 4, 4, 5, 4, 5, 5, 6, 4, 5, 5, 6, 5, 6, 6, 7, 2, 3, 3, 4, 3, 4, 4, 5, 3, 4, 4, 5, 4, 5, 5, 6, 3, 4, 4, 5, 4, 5, 5, 6, 4, 5, 5, 6, 5, 6, 6, 7, 3, 4, 4, 5, 4, 5, 5, 6, 4, 5, 5, 6, 5, 6, 6, 7, 4, 5, 5, 6, 5, 6, 6, 7, 5, 6, 6, 7, 6, 7, 7, 8].length then
          some ((IntKind.i64.wrap (IntKind.u8.wrap (IntKind.u8.wrap (IntKind.u8.wrap ([0, 1, 1, 2, 1, 2, 2, 3, 1, 2, 2, 3, 2, 3, 3, 4, 1, 2, 2, 3, 2, 3, 3, 4, 2, 3, 3, 4, 3, 4, 4, 5, 1, 2, 2, 3, 2, 3, 3, 4, 2, 3, 3, 4, 3, 4, 4, 5, 2, 3, 3, 4, 3, 4, 4, 5, 3, 4, 4, 5, 4, 5, 5, 6, 1, 2, 2, 3, 2, 3, 3, 4, 2, 3, 3, 4, 3, 4, 4, 5, 2, 3, 3, 4, 3, 4, 4, 5, 3, 4, 4, 5, 4, 5, 5, 6, 2, 3, 3, 4, 3, 4, 4, 5, 3, 4, 4, 5, 4, 5, 5, 6, 3, 4, 4, 5, 4, 5, 5, 6, 4, 5, 5, 6, 5, 6, 6, 7, 1, 2, 2, 3, 2, 3, 3, 4, 2, 3, 3, 4, 3, 4, 4, 5, 2, 3, 3, 4, 3, 4, 4, 5, 3, 4, 4, 5, 4, 5, 5, 6, 2, 3, 3, 4, 3, 4, 4, 5, 3, 4, 4, 5, 4, 5, 5, 6, 3, 4, 4, 5, 4, 5, 5, 6, 4, 5, 5, 6, 5, 6, 6, 7, 2, 3, 3, 4, 3, 4, 4, 5, 3, 4, 4, 5, 4, 5, 5, 6, 3, 4, 4, 5, 4, 5, 5, 6, 4, 5, 5, 6, 5, 6, 6, 7, 3, 4, 4, 5, 4, 5, 5, 6, 4, 5, 5, 6, 5, 6, 6, 7, 4, 5, 5, 6, 5, 6, 6, 7, 5, 6, 6, 7, 6, 7, 7, 8].getD (shrI IntKind.u32 x 24).toNat 0 + [0, 1, 1, 2, 1, 2, 2, 3, 1, 2, 2, 3, 2, 3, 3, 4, 1, 2, 2, 3, 2, 3, 3, 4, 2, 3, 3, 4, 3, 4, 4, 5, 1, 2, 2, 3, 2, 3, 3, 4, 2, 3, 3, 4, 3, 4, 4, 5, 2, 3, 3, 4, 3, 4, 4, 5, 3, 4, 4, 5, 4, 5, 5, 6, 1, 2, 2, 3, 2, 3, 3, 4, 2, 3, 3, 4, 3, 4, 4, 5, 2, 3, 3, 4, 3, 4, 4, 5, 3, 4, 4, 5, 4, 5, 5, 6, 2, 3, 3, 4, 3, 4, 4, 5, 3, 4, 4, 5, 4, 5, 5, 6, 3, 4, 4, 5, 4, 5, 5, 6, 4, 5, 5, 6, 5, 6, 6, 7, 1, 2, 2, 3, 2, 3, 3, 4, 2, 3, 3, 4, 3, 4, 4, 5, 2, 3, 3, 4, 3, 4, 4, 5, 3, 4, 4, 5, 4, 5, 5, 6, 2, 3, 3, 4, 3, 4, 4, 5, 3, 4, 4, 5, 4, 5, 5, 6, 3, 4, 4, 5, 4, 5, 5, 6, 4, 5, 5, 6, 5, 6, 6, 7, 2, 3, 3, 4, 3, 4, 4, 5, 3, 4, 4, 5, 4, 5, 5, 6, 3, 4, 4, 5, 4, 5, 5, 6, 4, 5, 5, 6, 5, 6, 6, 7, 3, 4, 4, 5, 4, 5, 5, 6, 4, 5, 5, 6, 5, 6, 6, 7, 4, 5, 5, 6, 5, 6, 6, 7, 5, 6, 6, 7, 6, 7, 7, 8].getD (IntKind.u32.wrap (↑(BitVec.ofInt IntKind.u32.bits (shrI IntKind.u32 x 16) &&& BitVec.ofInt IntKind.u32.bits 255).toNat : Int)).toNat 0) + [0, 1, 1, 2, 1, 2, 2, 3, 1, 2, 2, 3, 2, 3, 3, 4, 1, 2, 2, 3, 2, 3, 3, 4, 2, 3, 3, 4, 3, 4, 4, 5, 1, 2, 2, 3, 2, 3, 3, 4, 2, 3, 3, 4, 3, 4, 4, 5, 2, 3, 3, 4, 3, 4, 4, 5, 3, 4, 4, 5, 4, 5, 5, 6, 1, 2, 2, 3, 2, 3, 3, 4, 2, 3, 3, 4, 3, 4, 4, 5, 2, 3, 3, 4, 3, 4, 4, 5, 3, 4, 4, 5, 4, 5, 5, 6, 2, 3, 3, 4, 3, 4, 4, 5, 3, 4, 4, 5, 4, 5, 5, 6, 3, 4, 4, 5, 4, 5, 5, 6, 4, 5, 5, 6, 5, 6, 6, 7, 1, 2, 2, 3, 2, 3, 3, 4, 2, 3, 3, 4, 3, 4, 4, 5, 2, 3, 3, 4, 3, 4, 4, 5, 3, 4, 4, 5, 4, 5, 5, 6, 2, 3, 3, 4, 3, 4, 4, 5, 3, 4, 4, 5, 4, 5, 5, 6, 3, 4, 4, 5, 4, 5, 5, 6, 4, 5, 5, 6, 5, 6, 6, 7, 2, 3, 3, 4, 3, 4, 4, 5, 3, 4, 4, 5, 4, 5, 5, 6, 3, 4, 4, 5, 4, 5, 5, 6, 4, 5, 5, 6, 5, 6, 6, 7, 3, 4, 4, 5, 4, 5, 5, 6, 4, 5, 5, 6, 5, 6, 6, 7, 4, 5, 5, 6, 5, 6, 6, 7, 5, 6, 6, 7, 6, 7, 7, 8].getD (IntKind.u32.wrap (↑(BitVec.ofInt IntKind.u32.bits (shrI IntKind.u32 x 8) &&& BitVec.ofInt IntKind.u32.bits 255).toNat : Int)).toNat 0) + [0, 1, 1, 2, 1, 2, 2, 3, 1, 2, 2, 3, 2, 3, 3, 4, 1, 2, 2, 3, 2, 3, 3, 4, 2, 3, 3, 4, 3, 4, 4, 5, 1, 2, 2, 3, 2, 3, 3, 4, 2, 3, 3, 4, 3, 4, 4, 5, 2, 3, 3, 4, 3, 4, 4, 5, 3, 4, 4, 5, 4, 5, 5, 6, 1, 2, 2, 3, 2, 3, 3, 4, 2, 3, 3, 4, 3, 4, 4, 5, 2, 3, 3, 4, 3, 4, 4, 5, 3, 4, 4, 5, 4, 5, 5, 6, 2, 3, 3, 4, 3, 4, 4, 5, 3, 4, 4, 5, 4, 5, 5, 6, 3, 4, 4, 5, 4, 5, 5, 6, 4, 5, 5, 6, 5, 6, 6, 7, 1, 2, 2, 3, 2, 3, 3, 4, 2, 3, 3, 4, 3, 4, 4, 5, 2, 3, 3, 4, 3, 4, 4, 5, 3, 4, 4, 5, 4, 5, 5, 6, 2, 3, 3, 4, 3, 4, 4, 5, 3, 4, 4, 5, 4, 5, 5, 6, 3, 4, 4, 5, 4, 5, 5, 6, 4, 5, 5, 6, 5, 6, 6, 7, 2, 3, 3, 4, 3, 4, 4, 5, 3, 4, 4, 5, 4, 5, 5, 6, 3, 4, 4, 5, 4, 5, 5, 6, 4, 5, 5, 6, 5, 6, 6, 7, 3, 4, 4, 5, 4, 5, 5, 6, 4, 5, 5, 6, 5, 6, 6, 7, 4, 5, 5, 6, 5, 6, 6, 7, 5, 6, 6, 7, 6, 7, 7, 8].getD (IntKind.u32.wrap (↑(BitVec.ofInt IntKind.u32.bits x &&& BitVec.ofInt IntKind.u32.bits 255).toNat : Int)).toNat 0)), ()))
        else
          none
      else
        none
    else
      none
  else
    none
def bits_OnesCount32_f (nf : Nat) (x : Int) : Option (Int × Unit) := bits_OnesCount32_p nf  x
theorem bits_OnesCount32_eq (nf : Nat) (x : Int) : runF tab (bits_OnesCount32_phi nf) bits_OnesCount32_keep nf [PT.val (Ty.int IntKind.u32) (Md.bor true false)] [(Ty.int IntKind.i64, Md.bor false true)] (resL (none) Try.f66) (codeOf Try.f66) ⟨x, ()⟩ = bits_OnesCount32_f nf x := by
  have h : runF tab (bits_OnesCount32_phi nf) bits_OnesCount32_keep nf [PT.val (Ty.int IntKind.u32) (Md.bor true false)] [(Ty.int IntKind.i64, Md.bor false true)] (resL (none) Try.f66) (codeOf Try.f66) ⟨x, ()⟩ = bits_OnesCount32_p nf  x := by kernel_rfl
  exact h
def bits_OnesCount32_F (nf : Nat) (x : denPs [.val (.int .u32) (.bor true false)]) : Option (denL [(.int .i64, .bor false true)]) := bits_OnesCount32_f nf x.1
def bits_OnesCount32_C (nf : Nat) : Contract := ⟨[.val (.int .u32) (.bor true false)], [(.int .i64, .bor false true)], bits_OnesCount32_F nf, none⟩
theorem bits_OnesCount32_ok : FnOK Try.prog 66 := ⟨Try.f66, codeOf Try.f66, Try.func66, by kernel_rfl, by kernel_rfl⟩
theorem bits_OnesCount32_holds (nf : Nat) : Contract.Holds Try.prog 66 (bits_OnesCount32_C nf) :=
  fn_holds (Φ := bits_OnesCount32_phi nf) (keep := bits_OnesCount32_keep) (n := nf) ⟨tabs.1, tabs.2, ctx_nil, mixed⟩ (fn := Try.f66) ⟨Try.func66, by kernel_rfl, by kernel_rfl, by kernel_rfl⟩ (fun x => bits_OnesCount32_eq nf x.1)

/-! codemason rule.Tree -/
def rule_Tree_phi (nf : Nat) : Nat → Option Contract := lookC [(34, rule_Table_C nf), (66, bits_OnesCount32_C nf)]
def rule_Tree_keep : Nat → List Nat := lookK [(2, [4, 6, 7, 8, 9, 12, 14, 15, 20, 21, 22, 27, 28, 29, 57]), (0, [4, 6, 12, 14, 15, 20, 21, 22, 57])]
def rule_Tree_b0 (nf : Nat) (l2 : Int → List Int → List Int × Int × Unit → List Int → List Int → Int → Int → Option (List Int × Int × Unit)) (r : List Int × Int × Unit) (g0 : List Int → List Int → Int → Option (List Int × Int × Unit)) (l' : List Int) (out : List Int) (t22 : Int) : Option (List Int × Int × Unit) :=
  bif decide (t22 < (↑(List.length r.fst) : Int)) then
    bif inb t22 l'.length then
      l2 t22 l' r l' out (-1) 0
    else
      none
  else
    some ((out, 0, ()))
def rule_Tree_b2 (nf : Nat) (t22 : Int) (l' : List Int) (r : List Int × Int × Unit) (g0 : List Int → List Int → Int → Option (List Int × Int × Unit)) (g2 : List Int → List Int → Int → Int → Option (List Int × Int × Unit)) (l'2 : List Int) (out2 : List Int) (up : Int) (t29 : Int) : Option (List Int × Int × Unit) :=
  bif decide (t29 < (↑l'.length : Int)) then
    bif inb t29 l'2.length then
      bif t29 != t22 then
        bif decide (0 ≤ t29) then
          bif IntKind.u32.wrap (↑(BitVec.ofInt IntKind.u32.bits (shrI IntKind.u32 (l'.getD t22.toNat 0) t29) &&& BitVec.ofInt IntKind.u32.bits 1).toNat : Int) == 1 then
            Option.bind (bits_OnesCount32_f nf (l'2.getD t29.toNat 0)) fun r2 =>
            Option.bind (bits_OnesCount32_f nf (l'.getD t22.toNat 0)) fun r3 =>
            bif r2.fst == IntKind.i64.wrap (r3.fst - 1) then
              g2 l'2 out2 t29 (IntKind.i64.wrap (t29 + 1))
            else
              g2 l'2 out2 up (IntKind.i64.wrap (t29 + 1))
          else
            g2 l'2 out2 up (IntKind.i64.wrap (t29 + 1))
        else
          none
      else
        g2 l'2 out2 up (IntKind.i64.wrap (t29 + 1))
    else
      none
  else
    bif bimp false ![up].isEmpty && (out2.length + [up].length).ble lim then
      g0 l'2 (out2 ++ [up]) (IntKind.i64.wrap (t22 + 1))
    else
      none
def rule_Tree_p (nf : Nat) (l0 : List Int × Int × Unit → List Int → List Int → Int → Option (List Int × Int × Unit)) (next : List (List Int)) : Option (List Int × Int × Unit) :=
  Option.bind (rule_Table_f nf next) fun r =>
  bif r.snd.fst != 0 then
    some (([], r.snd.fst, ()))
  else
    l0 r r.fst [] 0
def rule_Tree_l2 (nf : Nat) (t22 : Int) (l' : List Int) (r : List Int × Int × Unit) (g0 : List Int → List Int → Int → Option (List Int × Int × Unit)) : Nat → List Int → List Int → Int → Int → Option (List Int × Int × Unit)
  | 0, _, _, _, _ => none
  | fu + 1, l'2, out2, up, t29 => rule_Tree_b2 nf  t22 l' r g0 (rule_Tree_l2 nf t22 l' r g0 fu) l'2 out2 up t29
def rule_Tree_l0 (nf : Nat) (r : List Int × Int × Unit) : Nat → List Int → List Int → Int → Option (List Int × Int × Unit)
  | 0, _, _, _ => none
  | fu + 1, l', out, t22 => rule_Tree_b0 nf (fun p0 p1 _ v0 v1 v2 v3 => rule_Tree_l2 nf p0 p1 r (fun l' out t22 => rule_Tree_l0 nf r  fu l' out t22) nf v0 v1 v2 v3) r  (rule_Tree_l0 nf r  fu) l' out t22
def rule_Tree_f (nf : Nat) (next : List (List Int)) : Option (List Int × Int × Unit) := rule_Tree_p nf (fun p0 v0 v1 v2 => rule_Tree_l0 nf p0 nf v0 v1 v2) next
noncomputable def rule_Tree_L0 (nf : Nat) : LC (List Int × Int × Unit) := theL (findL tab (rule_Tree_phi nf) (fun _ F => iter nf F) rule_Tree_keep 0 0 (codeOf Try.f36) (fin tab [((Ty.int IntKind.i64).sl, Md.own false (Md.bor false false)), (Ty.int IntKind.i64, Md.bor false true)] (resL (none) Try.f36)) (fun _ _ => none) (fin tab [((Ty.int IntKind.i64).sl, Md.own false (Md.bor false false)), (Ty.int IntKind.i64, Md.bor false true)] (resL (none) Try.f36)))
def rule_Tree_m0 (r : List Int × Int × Unit) (l' : List Int) (out : List Int) (t22 : Int) : St := ⟨fresh, [(4, AV.ow 500004 (Ty.int IntKind.u32).sl (Md.own false (Md.bor false false)) l'), (6, AV.ow 500006 (Ty.int IntKind.i64).sl (Md.own false (Md.bor false false)) out), (12, AV.dead), (14, AV.dead), (15, AV.dead), (20, AV.al 4 500004 []), (21, AV.v (Ty.int IntKind.i64) (Md.bor false true) (↑(List.length r.fst) : Int)), (22, AV.v (Ty.int IntKind.i64) (Md.bor false true) t22), (57, AV.dead)]⟩
noncomputable def rule_Tree_L2 (nf : Nat) (G0 : St → Option (List Int × Int × Unit)) : LC (List Int × Int × Unit) := theL (findL tab (rule_Tree_phi nf) (fun _ F => iter nf F) rule_Tree_keep 2 0 (rule_Tree_L0 nf ).c (fun st => norm (rule_Tree_keep 0) st G0) (rule_Tree_L0 nf ).Kx (rule_Tree_L0 nf ).Kr)
def rule_Tree_m2 (t22 : Int) (l' : List Int) (r : List Int × Int × Unit) (l'2 : List Int) (out2 : List Int) (up : Int) (t29 : Int) : St := ⟨fresh, [(4, AV.ow 500004 (Ty.int IntKind.u32).sl (Md.own false (Md.bor false false)) l'2), (6, AV.ow 500006 (Ty.int IntKind.i64).sl (Md.own false (Md.bor false false)) out2), (7, AV.v (Ty.int IntKind.i64) (Md.bor false true) t22), (8, AV.v (Ty.int IntKind.u32) (Md.bor false true) (l'.getD t22.toNat 0)), (9, AV.v (Ty.int IntKind.i64) (Md.bor false true) up), (12, AV.dead), (14, AV.dead), (15, AV.dead), (20, AV.al 4 500004 []), (21, AV.v (Ty.int IntKind.i64) (Md.bor false true) (↑(List.length r.fst) : Int)), (22, AV.v (Ty.int IntKind.i64) (Md.bor false true) t22), (27, AV.al 4 500004 []), (28, AV.v (Ty.int IntKind.i64) (Md.bor false true) (↑l'.length : Int)), (29, AV.v (Ty.int IntKind.i64) (Md.bor false true) t29), (57, AV.dead)]⟩
theorem rule_Tree_h2 (nf : Nat) (G0 : St → Option (List Int × Int × Unit)) (t22 : Int) (l' : List Int) (r : List Int × Int × Unit) (fu : Nat) (l'2 : List Int) (out2 : List Int) (up : Int) (t29 : Int) : iter (fu + 1) (LC.F tab (rule_Tree_phi nf) (fun _ F => iter nf F) rule_Tree_keep 2 (rule_Tree_L2 nf G0)) (rule_Tree_m2 t22 l' r l'2 out2 up t29) = rule_Tree_b2 nf  t22 l' r (fun l' out t22 => G0 (rule_Tree_m0 r l' out t22)) (fun l'2 out2 up t29 => iter fu (LC.F tab (rule_Tree_phi nf) (fun _ F => iter nf F) rule_Tree_keep 2 (rule_Tree_L2 nf G0)) (rule_Tree_m2 t22 l' r l'2 out2 up t29)) l'2 out2 up t29 := by kernel_rfl
theorem rule_Tree_e2 (nf : Nat) (G0 : St → Option (List Int × Int × Unit)) (t22 : Int) (l' : List Int) (r : List Int × Int × Unit) : ∀ (fu : Nat) (l'2 : List Int) (out2 : List Int) (up : Int) (t29 : Int), iter fu (LC.F tab (rule_Tree_phi nf) (fun _ F => iter nf F) rule_Tree_keep 2 (rule_Tree_L2 nf G0)) (rule_Tree_m2 t22 l' r l'2 out2 up t29) = rule_Tree_l2 nf t22 l' r (fun l' out t22 => G0 (rule_Tree_m0 r l' out t22)) fu l'2 out2 up t29 := by
  intro fu
  induction fu with
  | zero => intros; rfl
  | succ fu ih =>
    intro l'2 out2 up t29
    rw [rule_Tree_h2 nf G0 t22 l' r fu l'2 out2 up t29]
    simp only [ih]
    rfl
theorem rule_Tree_h0 (nf : Nat)  (r : List Int × Int × Unit) (fu : Nat) (l' : List Int) (out : List Int) (t22 : Int) : iter (fu + 1) (LC.F tab (rule_Tree_phi nf) (fun _ F => iter nf F) rule_Tree_keep 0 (rule_Tree_L0 nf )) (rule_Tree_m0 r l' out t22) = rule_Tree_b0 nf (fun p0 p1 _ v0 v1 v2 v3 => iter nf (LC.F tab (rule_Tree_phi nf) (fun _ F => iter nf F) rule_Tree_keep 2 (rule_Tree_L2 nf (iter fu (LC.F tab (rule_Tree_phi nf) (fun _ F => iter nf F) rule_Tree_keep 0 (rule_Tree_L0 nf ))))) (rule_Tree_m2 p0 p1 r v0 v1 v2 v3)) r  (fun l' out t22 => iter fu (LC.F tab (rule_Tree_phi nf) (fun _ F => iter nf F) rule_Tree_keep 0 (rule_Tree_L0 nf )) (rule_Tree_m0 r l' out t22)) l' out t22 := by kernel_rfl
theorem rule_Tree_e0 (nf : Nat)  (r : List Int × Int × Unit) : ∀ (fu : Nat) (l' : List Int) (out : List Int) (t22 : Int), iter fu (LC.F tab (rule_Tree_phi nf) (fun _ F => iter nf F) rule_Tree_keep 0 (rule_Tree_L0 nf )) (rule_Tree_m0 r l' out t22) = rule_Tree_l0 nf r  fu l' out t22 := by
  intro fu
  induction fu with
  | zero => intros; rfl
  | succ fu ih =>
    intro l' out t22
    rw [rule_Tree_h0 nf  r fu l' out t22]
    simp only [ih, rule_Tree_e2]
    rfl
theorem rule_Tree_eq (nf : Nat) (next : List (List Int)) : runF tab (rule_Tree_phi nf) rule_Tree_keep nf [PT.val (Ty.int IntKind.i64).sl.sl (Md.bor true false)] [((Ty.int IntKind.i64).sl, Md.own false (Md.bor false false)), (Ty.int IntKind.i64, Md.bor false true)] (resL (none) Try.f36) (codeOf Try.f36) ⟨next, ()⟩ = rule_Tree_f nf next := by
  have h : runF tab (rule_Tree_phi nf) rule_Tree_keep nf [PT.val (Ty.int IntKind.i64).sl.sl (Md.bor true false)] [((Ty.int IntKind.i64).sl, Md.own false (Md.bor false false)), (Ty.int IntKind.i64, Md.bor false true)] (resL (none) Try.f36) (codeOf Try.f36) ⟨next, ()⟩ = rule_Tree_p nf (fun p0 v0 v1 v2 => iter nf (LC.F tab (rule_Tree_phi nf) (fun _ F => iter nf F) rule_Tree_keep 0 (rule_Tree_L0 nf)) (rule_Tree_m0 p0 v0 v1 v2)) next := by kernel_rfl
  rw [h]
  simp only [rule_Tree_e0]
  rfl
def rule_Tree_F (nf : Nat) (x : denPs [.val (.sl (.sl (.int .i64))) (.bor true false)]) : Option (denL [(.sl (.int .i64), .own false (.bor false false)), (.int .i64, .bor false true)]) := rule_Tree_f nf x.1
def rule_Tree_C (nf : Nat) : Contract := ⟨[.val (.sl (.sl (.int .i64))) (.bor true false)], [(.sl (.int .i64), .own false (.bor false false)), (.int .i64, .bor false true)], rule_Tree_F nf, none⟩
theorem rule_Tree_ok : FnOK Try.prog 36 := ⟨Try.f36, codeOf Try.f36, Try.func36, by kernel_rfl, by kernel_rfl⟩
theorem rule_Tree_holds (nf : Nat) : Contract.Holds Try.prog 36 (rule_Tree_C nf) :=
  fn_holds (Φ := rule_Tree_phi nf) (keep := rule_Tree_keep) (n := nf) ⟨tabs.1, tabs.2, (ctx_cons rule_Table_ok (rule_Table_holds nf) (ctx_cons bits_OnesCount32_ok (bits_OnesCount32_holds nf) ctx_nil)), mixed⟩ (fn := Try.f36) ⟨Try.func36, by kernel_rfl, by kernel_rfl, by kernel_rfl⟩ (fun x => rule_Tree_eq nf x.1)

/-! codemason codemasonlaw.RuleTrees -/
def law_RuleTrees_phi (nf : Nat) : Nat → Option Contract := lookC [(21, ref_WayCheck_C nf), (35, ref_Rules_C nf), (36, rule_Tree_C nf)]
def law_RuleTrees_keep : Nat → List Nat := lookK [(4, [0, 3, 4, 6, 7, 8, 9, 10, 11, 13, 14]), (2, [0, 3, 4, 6, 7, 8, 11, 13, 14]), (0, [0, 3, 4, 6, 11, 13, 14])]
def law_RuleTrees_b0 (nf : Nat) (l2 : List (List Int) → List Int × Int × Unit → Int → List Int → Int → Int → Option (Bool × Unit)) (next : List (List Int)) (r : List Int × Int × Unit) (g0 : List Int → Int → Option (Bool × Unit)) (l' : List Int) (i : Int) : Option (Bool × Unit) :=
  bif decide (i < (↑l'.length : Int)) then
    bif decide (i < (↑next.length : Int)) then
      l2 next r i l' (-1) 0
    else
      bif r.snd.fst == 0 then
        some (((↑l'.length : Int) == (↑next.length : Int), ()))
      else
        some ((false, ()))
  else
    bif r.snd.fst == 0 then
      some (((↑l'.length : Int) == (↑next.length : Int), ()))
    else
      some ((false, ()))
def law_RuleTrees_b2 (nf : Nat) (l4 : List (List Int) → List Int × Int × Unit → Int → Int → Int → List Int → Bool → Int → Option (Bool × Unit)) (next : List (List Int)) (r : List Int × Int × Unit) (i : Int) (g0 : List Int → Int → Option (Bool × Unit)) (g2 : List Int → Int → Int → Option (Bool × Unit)) (l'2 : List Int) (want : Int) (j : Int) : Option (Bool × Unit) :=
  bif decide (j < (↑next.length : Int)) then
    bif j != i then
      Option.bind (ref_Rules_f nf next j i) fun r3 =>
      l4 next r i want j l'2 r3.fst 0
    else
      l4 next r i want j l'2 false 0
  else
    bif inb i l'2.length then
      bif l'2.getD i.toNat 0 != want then
        some ((false, ()))
      else
        g0 l'2 (IntKind.i64.wrap (i + 1))
    else
      none
def law_RuleTrees_b4 (nf : Nat) (next : List (List Int)) (r : List Int × Int × Unit) (i : Int) (want : Int) (j : Int) (g2 : List Int → Int → Int → Option (Bool × Unit)) (g0 : List Int → Int → Option (Bool × Unit)) (g4 : List Int → Bool → Int → Option (Bool × Unit)) (l'3 : List Int) (last : Bool) (k' : Int) : Option (Bool × Unit) :=
  bif decide (k' < (↑next.length : Int)) then
    bif last then
      bif k' == i then
        g4 l'3 true (IntKind.i64.wrap (k' + 1))
      else
        Option.bind (ref_Rules_f nf next k' i) fun r4 =>
        bif !r4.fst then
          g4 l'3 true (IntKind.i64.wrap (k' + 1))
        else
          Option.bind (ref_Rules_f nf next k' j) fun r5 =>
          g4 l'3 r5.fst (IntKind.i64.wrap (k' + 1))
    else
      g4 l'3 false (IntKind.i64.wrap (k' + 1))
  else
    bif last then
      g2 l'3 j (IntKind.i64.wrap (j + 1))
    else
      g2 l'3 want (IntKind.i64.wrap (j + 1))
def law_RuleTrees_p (nf : Nat) (l0 : List (List Int) → List Int × Int × Unit → List Int → Int → Option (Bool × Unit)) (next : List (List Int)) : Option (Bool × Unit) :=
  Option.bind (rule_Tree_f nf next) fun r =>
  Option.bind (ref_WayCheck_f nf next) fun r2 =>
  bif r2.fst != 0 then
    bif r.snd.fst == r2.fst then
      some (((↑(List.length r.fst) : Int) == 0, ()))
    else
      some ((false, ()))
  else
    l0 next r r.fst 0
def law_RuleTrees_l4 (nf : Nat) (next : List (List Int)) (r : List Int × Int × Unit) (i : Int) (want : Int) (j : Int) (g2 : List Int → Int → Int → Option (Bool × Unit)) (g0 : List Int → Int → Option (Bool × Unit)) : Nat → List Int → Bool → Int → Option (Bool × Unit)
  | 0, _, _, _ => none
  | fu + 1, l'3, last, k' => law_RuleTrees_b4 nf  next r i want j g2 g0 (law_RuleTrees_l4 nf next r i want j g2 g0 fu) l'3 last k'
def law_RuleTrees_l2 (nf : Nat) (next : List (List Int)) (r : List Int × Int × Unit) (i : Int) (g0 : List Int → Int → Option (Bool × Unit)) : Nat → List Int → Int → Int → Option (Bool × Unit)
  | 0, _, _, _ => none
  | fu + 1, l'2, want, j => law_RuleTrees_b2 nf (fun _ _ _ p3 p4 v0 v1 v2 => law_RuleTrees_l4 nf next r i p3 p4 (fun l'2 want j => law_RuleTrees_l2 nf next r i g0 fu l'2 want j) g0 nf v0 v1 v2) next r i g0 (law_RuleTrees_l2 nf next r i g0 fu) l'2 want j
def law_RuleTrees_l0 (nf : Nat) (next : List (List Int)) (r : List Int × Int × Unit) : Nat → List Int → Int → Option (Bool × Unit)
  | 0, _, _ => none
  | fu + 1, l', i => law_RuleTrees_b0 nf (fun _ _ p2 v0 v1 v2 => law_RuleTrees_l2 nf next r p2 (fun l' i => law_RuleTrees_l0 nf next r  fu l' i) nf v0 v1 v2) next r  (law_RuleTrees_l0 nf next r  fu) l' i
def law_RuleTrees_f (nf : Nat) (next : List (List Int)) : Option (Bool × Unit) := law_RuleTrees_p nf (fun p0 p1 v0 v1 => law_RuleTrees_l0 nf p0 p1 nf v0 v1) next
noncomputable def law_RuleTrees_L0 (nf : Nat) : LC (Bool × Unit) := theL (findL tab (law_RuleTrees_phi nf) (fun _ F => iter nf F) law_RuleTrees_keep 0 0 (codeOf Try.f9) (fin tab [(Ty.bool, Md.bor false true)] (resL (none) Try.f9)) (fun _ _ => none) (fin tab [(Ty.bool, Md.bor false true)] (resL (none) Try.f9)))
def law_RuleTrees_m0 (next : List (List Int)) (r : List Int × Int × Unit) (l' : List Int) (i : Int) : St := ⟨fresh, [(0, AV.v (Ty.int IntKind.i64).sl.sl (Md.bor true false) next), (3, AV.ow 500003 (Ty.int IntKind.i64).sl (Md.own false (Md.bor false false)) l'), (4, AV.v (Ty.int IntKind.i64) (Md.bor false true) r.snd.fst), (6, AV.v (Ty.int IntKind.i64) (Md.bor false true) i), (11, AV.dead), (13, AV.dead), (14, AV.dead)]⟩
noncomputable def law_RuleTrees_L2 (nf : Nat) (G0 : St → Option (Bool × Unit)) : LC (Bool × Unit) := theL (findL tab (law_RuleTrees_phi nf) (fun _ F => iter nf F) law_RuleTrees_keep 2 0 (law_RuleTrees_L0 nf ).c (fun st => norm (law_RuleTrees_keep 0) st G0) (law_RuleTrees_L0 nf ).Kx (law_RuleTrees_L0 nf ).Kr)
def law_RuleTrees_m2 (next : List (List Int)) (r : List Int × Int × Unit) (i : Int) (l'2 : List Int) (want : Int) (j : Int) : St := ⟨fresh, [(0, AV.v (Ty.int IntKind.i64).sl.sl (Md.bor true false) next), (3, AV.ow 500003 (Ty.int IntKind.i64).sl (Md.own false (Md.bor false false)) l'2), (4, AV.v (Ty.int IntKind.i64) (Md.bor false true) r.snd.fst), (6, AV.v (Ty.int IntKind.i64) (Md.bor false true) i), (7, AV.v (Ty.int IntKind.i64) (Md.bor false true) want), (8, AV.v (Ty.int IntKind.i64) (Md.bor false true) j), (11, AV.dead), (13, AV.dead), (14, AV.dead)]⟩
noncomputable def law_RuleTrees_L4 (nf : Nat) (G0 : St → Option (Bool × Unit)) (G2 : St → Option (Bool × Unit)) : LC (Bool × Unit) := theL (findL tab (law_RuleTrees_phi nf) (fun _ F => iter nf F) law_RuleTrees_keep 4 2 (law_RuleTrees_L2 nf G0).c (fun st => norm (law_RuleTrees_keep 2) st G2) (law_RuleTrees_L2 nf G0).Kx (law_RuleTrees_L2 nf G0).Kr)
def law_RuleTrees_m4 (next : List (List Int)) (r : List Int × Int × Unit) (i : Int) (want : Int) (j : Int) (l'3 : List Int) (last : Bool) (k' : Int) : St := ⟨fresh, [(0, AV.v (Ty.int IntKind.i64).sl.sl (Md.bor true false) next), (3, AV.ow 500003 (Ty.int IntKind.i64).sl (Md.own false (Md.bor false false)) l'3), (4, AV.v (Ty.int IntKind.i64) (Md.bor false true) r.snd.fst), (6, AV.v (Ty.int IntKind.i64) (Md.bor false true) i), (7, AV.v (Ty.int IntKind.i64) (Md.bor false true) want), (8, AV.v (Ty.int IntKind.i64) (Md.bor false true) j), (9, AV.v Ty.bool (Md.bor false true) last), (10, AV.v (Ty.int IntKind.i64) (Md.bor false true) k'), (11, AV.dead), (13, AV.dead), (14, AV.dead)]⟩
theorem law_RuleTrees_h4 (nf : Nat) (G0 : St → Option (Bool × Unit)) (G2 : St → Option (Bool × Unit)) (next : List (List Int)) (r : List Int × Int × Unit) (i : Int) (want : Int) (j : Int) (fu : Nat) (l'3 : List Int) (last : Bool) (k' : Int) : iter (fu + 1) (LC.F tab (law_RuleTrees_phi nf) (fun _ F => iter nf F) law_RuleTrees_keep 4 (law_RuleTrees_L4 nf G0 G2)) (law_RuleTrees_m4 next r i want j l'3 last k') = law_RuleTrees_b4 nf  next r i want j (fun l'2 want j => G2 (law_RuleTrees_m2 next r i l'2 want j)) (fun l' i => G0 (law_RuleTrees_m0 next r l' i)) (fun l'3 last k' => iter fu (LC.F tab (law_RuleTrees_phi nf) (fun _ F => iter nf F) law_RuleTrees_keep 4 (law_RuleTrees_L4 nf G0 G2)) (law_RuleTrees_m4 next r i want j l'3 last k')) l'3 last k' := by kernel_rfl
theorem law_RuleTrees_e4 (nf : Nat) (G0 : St → Option (Bool × Unit)) (G2 : St → Option (Bool × Unit)) (next : List (List Int)) (r : List Int × Int × Unit) (i : Int) (want : Int) (j : Int) : ∀ (fu : Nat) (l'3 : List Int) (last : Bool) (k' : Int), iter fu (LC.F tab (law_RuleTrees_phi nf) (fun _ F => iter nf F) law_RuleTrees_keep 4 (law_RuleTrees_L4 nf G0 G2)) (law_RuleTrees_m4 next r i want j l'3 last k') = law_RuleTrees_l4 nf next r i want j (fun l'2 want j => G2 (law_RuleTrees_m2 next r i l'2 want j)) (fun l' i => G0 (law_RuleTrees_m0 next r l' i)) fu l'3 last k' := by
  intro fu
  induction fu with
  | zero => intros; rfl
  | succ fu ih =>
    intro l'3 last k'
    rw [law_RuleTrees_h4 nf G0 G2 next r i want j fu l'3 last k']
    simp only [ih]
    rfl
theorem law_RuleTrees_h2 (nf : Nat) (G0 : St → Option (Bool × Unit)) (next : List (List Int)) (r : List Int × Int × Unit) (i : Int) (fu : Nat) (l'2 : List Int) (want : Int) (j : Int) : iter (fu + 1) (LC.F tab (law_RuleTrees_phi nf) (fun _ F => iter nf F) law_RuleTrees_keep 2 (law_RuleTrees_L2 nf G0)) (law_RuleTrees_m2 next r i l'2 want j) = law_RuleTrees_b2 nf (fun _ _ _ p3 p4 v0 v1 v2 => iter nf (LC.F tab (law_RuleTrees_phi nf) (fun _ F => iter nf F) law_RuleTrees_keep 4 (law_RuleTrees_L4 nf G0 (iter fu (LC.F tab (law_RuleTrees_phi nf) (fun _ F => iter nf F) law_RuleTrees_keep 2 (law_RuleTrees_L2 nf G0))))) (law_RuleTrees_m4 next r i p3 p4 v0 v1 v2)) next r i (fun l' i => G0 (law_RuleTrees_m0 next r l' i)) (fun l'2 want j => iter fu (LC.F tab (law_RuleTrees_phi nf) (fun _ F => iter nf F) law_RuleTrees_keep 2 (law_RuleTrees_L2 nf G0)) (law_RuleTrees_m2 next r i l'2 want j)) l'2 want j := by kernel_rfl
theorem law_RuleTrees_e2 (nf : Nat) (G0 : St → Option (Bool × Unit)) (next : List (List Int)) (r : List Int × Int × Unit) (i : Int) : ∀ (fu : Nat) (l'2 : List Int) (want : Int) (j : Int), iter fu (LC.F tab (law_RuleTrees_phi nf) (fun _ F => iter nf F) law_RuleTrees_keep 2 (law_RuleTrees_L2 nf G0)) (law_RuleTrees_m2 next r i l'2 want j) = law_RuleTrees_l2 nf next r i (fun l' i => G0 (law_RuleTrees_m0 next r l' i)) fu l'2 want j := by
  intro fu
  induction fu with
  | zero => intros; rfl
  | succ fu ih =>
    intro l'2 want j
    rw [law_RuleTrees_h2 nf G0 next r i fu l'2 want j]
    simp only [ih, law_RuleTrees_e4]
    rfl
theorem law_RuleTrees_h0 (nf : Nat)  (next : List (List Int)) (r : List Int × Int × Unit) (fu : Nat) (l' : List Int) (i : Int) : iter (fu + 1) (LC.F tab (law_RuleTrees_phi nf) (fun _ F => iter nf F) law_RuleTrees_keep 0 (law_RuleTrees_L0 nf )) (law_RuleTrees_m0 next r l' i) = law_RuleTrees_b0 nf (fun _ _ p2 v0 v1 v2 => iter nf (LC.F tab (law_RuleTrees_phi nf) (fun _ F => iter nf F) law_RuleTrees_keep 2 (law_RuleTrees_L2 nf (iter fu (LC.F tab (law_RuleTrees_phi nf) (fun _ F => iter nf F) law_RuleTrees_keep 0 (law_RuleTrees_L0 nf ))))) (law_RuleTrees_m2 next r p2 v0 v1 v2)) next r  (fun l' i => iter fu (LC.F tab (law_RuleTrees_phi nf) (fun _ F => iter nf F) law_RuleTrees_keep 0 (law_RuleTrees_L0 nf )) (law_RuleTrees_m0 next r l' i)) l' i := by kernel_rfl
theorem law_RuleTrees_e0 (nf : Nat)  (next : List (List Int)) (r : List Int × Int × Unit) : ∀ (fu : Nat) (l' : List Int) (i : Int), iter fu (LC.F tab (law_RuleTrees_phi nf) (fun _ F => iter nf F) law_RuleTrees_keep 0 (law_RuleTrees_L0 nf )) (law_RuleTrees_m0 next r l' i) = law_RuleTrees_l0 nf next r  fu l' i := by
  intro fu
  induction fu with
  | zero => intros; rfl
  | succ fu ih =>
    intro l' i
    rw [law_RuleTrees_h0 nf  next r fu l' i]
    simp only [ih, law_RuleTrees_e2]
    rfl
theorem law_RuleTrees_eq (nf : Nat) (next : List (List Int)) : runF tab (law_RuleTrees_phi nf) law_RuleTrees_keep nf [PT.val (Ty.int IntKind.i64).sl.sl (Md.bor true false)] [(Ty.bool, Md.bor false true)] (resL (none) Try.f9) (codeOf Try.f9) ⟨next, ()⟩ = law_RuleTrees_f nf next := by
  have h : runF tab (law_RuleTrees_phi nf) law_RuleTrees_keep nf [PT.val (Ty.int IntKind.i64).sl.sl (Md.bor true false)] [(Ty.bool, Md.bor false true)] (resL (none) Try.f9) (codeOf Try.f9) ⟨next, ()⟩ = law_RuleTrees_p nf (fun p0 p1 v0 v1 => iter nf (LC.F tab (law_RuleTrees_phi nf) (fun _ F => iter nf F) law_RuleTrees_keep 0 (law_RuleTrees_L0 nf)) (law_RuleTrees_m0 p0 p1 v0 v1)) next := by kernel_rfl
  rw [h]
  simp only [law_RuleTrees_e0]
  rfl
def law_RuleTrees_F (nf : Nat) (x : denPs [.val (.sl (.sl (.int .i64))) (.bor true false)]) : Option (denL [(.bool, .bor false true)]) := law_RuleTrees_f nf x.1
def law_RuleTrees_C (nf : Nat) : Contract := ⟨[.val (.sl (.sl (.int .i64))) (.bor true false)], [(.bool, .bor false true)], law_RuleTrees_F nf, none⟩
theorem law_RuleTrees_ok : FnOK Try.prog 9 := ⟨Try.f9, codeOf Try.f9, Try.func9, by kernel_rfl, by kernel_rfl⟩
theorem law_RuleTrees_holds (nf : Nat) : Contract.Holds Try.prog 9 (law_RuleTrees_C nf) :=
  fn_holds (Φ := law_RuleTrees_phi nf) (keep := law_RuleTrees_keep) (n := nf) ⟨tabs.1, tabs.2, (ctx_cons ref_WayCheck_ok (ref_WayCheck_holds nf) (ctx_cons ref_Rules_ok (ref_Rules_holds nf) (ctx_cons rule_Tree_ok (rule_Tree_holds nf) ctx_nil))), mixed⟩ (fn := Try.f9) ⟨Try.func9, by kernel_rfl, by kernel_rfl, by kernel_rfl⟩ (fun x => law_RuleTrees_eq nf x.1)
end
end Go.Proofs.Ytccbcbhiblohgaa.S
