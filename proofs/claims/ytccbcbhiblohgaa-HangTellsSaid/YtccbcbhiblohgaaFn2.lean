/- The functions of the code, as plain functions, and the theorems that say so: made by a program of this proof's own. -/
import Derived.Test.YtccbcbhiblohgaaFn1
import Derived.Test.YtccbcbhiblohgaaChecked
namespace Go.Proofs.Ytccbcbhiblohgaa.S
open Go Go.Ab

/-! codemason hang.comes 1 -/
def hang_comes_1_phi (nf : Nat) : Nat → Option Contract := lookC []
def hang_comes_1_keep : Nat → List Nat := lookK []
def hang_comes_1_p (nf : Nat)  (j : Int) (c1 : Int) : Option (Bool × Unit) :=
  bif decide (0 ≤ j) then
    some ((IntKind.u32.wrap (↑(BitVec.ofInt IntKind.u32.bits (shrI IntKind.u32 c1 j) &&& BitVec.ofInt IntKind.u32.bits 1).toNat : Int) == 1, ()))
  else
    none
def hang_comes_1_f (nf : Nat) (j : Int) (c1 : Int) : Option (Bool × Unit) := hang_comes_1_p nf  j c1
theorem hang_comes_1_eq (nf : Nat) (j : Int) (c1 : Int) : runF tab (hang_comes_1_phi nf) hang_comes_1_keep nf [PT.val (Ty.int IntKind.i64) (Md.bor true false), PT.ptr (Ty.int IntKind.u32) (Md.bor true false)] [(Ty.bool, Md.bor false true)] Try.f85.results.toList (codeOf Try.f85) ⟨j, c1, ()⟩ = hang_comes_1_f nf j c1 := by
  have h : runF tab (hang_comes_1_phi nf) hang_comes_1_keep nf [PT.val (Ty.int IntKind.i64) (Md.bor true false), PT.ptr (Ty.int IntKind.u32) (Md.bor true false)] [(Ty.bool, Md.bor false true)] Try.f85.results.toList (codeOf Try.f85) ⟨j, c1, ()⟩ = hang_comes_1_p nf  j c1 := by kernel_rfl
  exact h
def hang_comes_1_F (nf : Nat) (x : denPs [.val (.int .i64) (.bor true false), .ptr (.int .u32) (.bor true false)]) : Option (denL [(.bool, .bor false true)]) := hang_comes_1_f nf x.1 x.2.1
def hang_comes_1_C (nf : Nat) : Contract := ⟨[.val (.int .i64) (.bor true false), .ptr (.int .u32) (.bor true false)], [(.bool, .bor false true)], hang_comes_1_F nf⟩
theorem hang_comes_1_ok : FnOK Try.prog 85 := ⟨Try.f85, codeOf Try.f85, Try.func85, by kernel_rfl, by kernel_rfl⟩
theorem hang_comes_1_holds (nf : Nat) : Contract.Holds Try.prog 85 (hang_comes_1_C nf) :=
  fn_holds (Φ := hang_comes_1_phi nf) (keep := hang_comes_1_keep) (n := nf) ⟨tabs.1, tabs.2, ctx_nil, mixed⟩ (fn := Try.f85) ⟨Try.func85, by kernel_rfl, by kernel_rfl, by kernel_rfl⟩ (fun x => hang_comes_1_eq nf x.1 x.2.1)

/-! slices.IndexFunc   int int  codemason hang.comes 1 -/
def slices_IndexFunc__hang_comes_1_phi (nf : Nat) : Nat → Option Contract := lookC [(85, hang_comes_1_C nf)]
def slices_IndexFunc__hang_comes_1_keep : Nat → List Nat := lookK [(0, [0, 1, 7, 8])]
def slices_IndexFunc__hang_comes_1_b0 (nf : Nat) (s : List Int) (f : Int × Unit) (g0 : Int → Option (Int × Unit)) (t8 : Int) : Option (Int × Unit) :=
  bif decide (t8 < (↑s.length : Int)) then
    bif inb t8 s.length then
      Option.bind (hang_comes_1_f nf (s.getD t8.toNat 0) f.fst) fun r =>
      bif r.fst then
        some ((t8, ()))
      else
        g0 (IntKind.i64.wrap (t8 + 1))
    else
      none
  else
    some ((-1, ()))
def slices_IndexFunc__hang_comes_1_p (nf : Nat) (l0 : List Int → Int × Unit → Int → Option (Int × Unit)) (s : List Int) (f : Int × Unit) : Option (Int × Unit) :=
  l0 s f 0
def slices_IndexFunc__hang_comes_1_l0 (nf : Nat) (s : List Int) (f : Int × Unit) : Nat → Int → Option (Int × Unit)
  | 0, _ => none
  | fu + 1, t8 => slices_IndexFunc__hang_comes_1_b0 nf  s f  (slices_IndexFunc__hang_comes_1_l0 nf s f  fu) t8
def slices_IndexFunc__hang_comes_1_f (nf : Nat) (s : List Int) (f : Int × Unit) : Option (Int × Unit) := slices_IndexFunc__hang_comes_1_p nf (fun p0 p1 v0 => slices_IndexFunc__hang_comes_1_l0 nf p0 p1 nf v0) s f
noncomputable def slices_IndexFunc__hang_comes_1_L0 (nf : Nat) : LC (Int × Unit) := theL (findL tab (slices_IndexFunc__hang_comes_1_phi nf) (fun _ F => iter nf F) slices_IndexFunc__hang_comes_1_keep 0 0 (codeOf Try.f75) (fin [(Ty.int IntKind.i64, Md.bor false true)] Try.f75.results.toList) (fun _ _ => none) (fin [(Ty.int IntKind.i64, Md.bor false true)] Try.f75.results.toList))
def slices_IndexFunc__hang_comes_1_m0 (s : List Int) (f : Int × Unit) (t8 : Int) : St := ⟨fresh, [(0, AV.v (Ty.int IntKind.i64).sl (Md.bor true false) s), (1, AV.clo 85 [AV.rop (Ty.int IntKind.u32) (Md.bor true false) f.fst]), (7, AV.v (Ty.int IntKind.i64) (Md.bor false true) (↑s.length : Int)), (8, AV.v (Ty.int IntKind.i64) (Md.bor false true) t8)]⟩
theorem slices_IndexFunc__hang_comes_1_h0 (nf : Nat)  (s : List Int) (f : Int × Unit) (fu : Nat) (t8 : Int) : iter (fu + 1) (LC.F tab (slices_IndexFunc__hang_comes_1_phi nf) (fun _ F => iter nf F) slices_IndexFunc__hang_comes_1_keep 0 (slices_IndexFunc__hang_comes_1_L0 nf )) (slices_IndexFunc__hang_comes_1_m0 s f t8) = slices_IndexFunc__hang_comes_1_b0 nf  s f  (fun t8 => iter fu (LC.F tab (slices_IndexFunc__hang_comes_1_phi nf) (fun _ F => iter nf F) slices_IndexFunc__hang_comes_1_keep 0 (slices_IndexFunc__hang_comes_1_L0 nf )) (slices_IndexFunc__hang_comes_1_m0 s f t8)) t8 := by kernel_rfl
theorem slices_IndexFunc__hang_comes_1_e0 (nf : Nat)  (s : List Int) (f : Int × Unit) : ∀ (fu : Nat) (t8 : Int), iter fu (LC.F tab (slices_IndexFunc__hang_comes_1_phi nf) (fun _ F => iter nf F) slices_IndexFunc__hang_comes_1_keep 0 (slices_IndexFunc__hang_comes_1_L0 nf )) (slices_IndexFunc__hang_comes_1_m0 s f t8) = slices_IndexFunc__hang_comes_1_l0 nf s f  fu t8 := by
  intro fu
  induction fu with
  | zero => intros; rfl
  | succ fu ih =>
    intro t8
    rw [slices_IndexFunc__hang_comes_1_h0 nf  s f fu t8]
    simp only [ih]
    rfl
theorem slices_IndexFunc__hang_comes_1_eq (nf : Nat) (s : List Int) (f : Int × Unit) : runF tab (slices_IndexFunc__hang_comes_1_phi nf) slices_IndexFunc__hang_comes_1_keep nf [PT.val (Ty.int IntKind.i64).sl (Md.bor true false), PT.clo 85 [(Ty.int IntKind.u32, Md.bor true false)]] [(Ty.int IntKind.i64, Md.bor false true)] Try.f75.results.toList (codeOf Try.f75) ⟨s, f, ()⟩ = slices_IndexFunc__hang_comes_1_f nf s f := by
  have h : runF tab (slices_IndexFunc__hang_comes_1_phi nf) slices_IndexFunc__hang_comes_1_keep nf [PT.val (Ty.int IntKind.i64).sl (Md.bor true false), PT.clo 85 [(Ty.int IntKind.u32, Md.bor true false)]] [(Ty.int IntKind.i64, Md.bor false true)] Try.f75.results.toList (codeOf Try.f75) ⟨s, f, ()⟩ = slices_IndexFunc__hang_comes_1_p nf (fun p0 p1 v0 => iter nf (LC.F tab (slices_IndexFunc__hang_comes_1_phi nf) (fun _ F => iter nf F) slices_IndexFunc__hang_comes_1_keep 0 (slices_IndexFunc__hang_comes_1_L0 nf)) (slices_IndexFunc__hang_comes_1_m0 p0 p1 v0)) s f := by kernel_rfl
  rw [h]
  simp only [slices_IndexFunc__hang_comes_1_e0]
  rfl
def slices_IndexFunc__hang_comes_1_F (nf : Nat) (x : denPs [.val (.sl (.int .i64)) (.bor true false), .clo 85 [(.int .u32, .bor true false)]]) : Option (denL [(.int .i64, .bor false true)]) := slices_IndexFunc__hang_comes_1_f nf x.1 x.2.1
def slices_IndexFunc__hang_comes_1_C (nf : Nat) : Contract := ⟨[.val (.sl (.int .i64)) (.bor true false), .clo 85 [(.int .u32, .bor true false)]], [(.int .i64, .bor false true)], slices_IndexFunc__hang_comes_1_F nf⟩
theorem slices_IndexFunc__hang_comes_1_ok : FnOK Try.prog 75 := ⟨Try.f75, codeOf Try.f75, Try.func75, by kernel_rfl, by kernel_rfl⟩
theorem slices_IndexFunc__hang_comes_1_holds (nf : Nat) : Contract.Holds Try.prog 75 (slices_IndexFunc__hang_comes_1_C nf) :=
  fn_holds (Φ := slices_IndexFunc__hang_comes_1_phi nf) (keep := slices_IndexFunc__hang_comes_1_keep) (n := nf) ⟨tabs.1, tabs.2, (ctx_cons hang_comes_1_ok (hang_comes_1_holds nf) ctx_nil), mixed⟩ (fn := Try.f75) ⟨Try.func75, by kernel_rfl, by kernel_rfl, by kernel_rfl⟩ (fun x => slices_IndexFunc__hang_comes_1_eq nf x.1 x.2.1)

/-! slices.ContainsFunc   int int  codemason hang.comes 1 -/
def slices_ContainsFunc__hang_comes_1_phi (nf : Nat) : Nat → Option Contract := lookC [(75, slices_IndexFunc__hang_comes_1_C nf)]
def slices_ContainsFunc__hang_comes_1_keep : Nat → List Nat := lookK []
def slices_ContainsFunc__hang_comes_1_p (nf : Nat)  (s : List Int) (f : Int × Unit) : Option (Bool × Unit) :=
  Option.bind (slices_IndexFunc__hang_comes_1_f nf s ((f.fst, ()))) fun r =>
  some ((decide (r.fst ≥ 0), ()))
def slices_ContainsFunc__hang_comes_1_f (nf : Nat) (s : List Int) (f : Int × Unit) : Option (Bool × Unit) := slices_ContainsFunc__hang_comes_1_p nf  s f
theorem slices_ContainsFunc__hang_comes_1_eq (nf : Nat) (s : List Int) (f : Int × Unit) : runF tab (slices_ContainsFunc__hang_comes_1_phi nf) slices_ContainsFunc__hang_comes_1_keep nf [PT.val (Ty.int IntKind.i64).sl (Md.bor true false), PT.clo 85 [(Ty.int IntKind.u32, Md.bor true false)]] [(Ty.bool, Md.bor false true)] Try.f57.results.toList (codeOf Try.f57) ⟨s, f, ()⟩ = slices_ContainsFunc__hang_comes_1_f nf s f := by
  have h : runF tab (slices_ContainsFunc__hang_comes_1_phi nf) slices_ContainsFunc__hang_comes_1_keep nf [PT.val (Ty.int IntKind.i64).sl (Md.bor true false), PT.clo 85 [(Ty.int IntKind.u32, Md.bor true false)]] [(Ty.bool, Md.bor false true)] Try.f57.results.toList (codeOf Try.f57) ⟨s, f, ()⟩ = slices_ContainsFunc__hang_comes_1_p nf  s f := by kernel_rfl
  exact h
def slices_ContainsFunc__hang_comes_1_F (nf : Nat) (x : denPs [.val (.sl (.int .i64)) (.bor true false), .clo 85 [(.int .u32, .bor true false)]]) : Option (denL [(.bool, .bor false true)]) := slices_ContainsFunc__hang_comes_1_f nf x.1 x.2.1
def slices_ContainsFunc__hang_comes_1_C (nf : Nat) : Contract := ⟨[.val (.sl (.int .i64)) (.bor true false), .clo 85 [(.int .u32, .bor true false)]], [(.bool, .bor false true)], slices_ContainsFunc__hang_comes_1_F nf⟩
theorem slices_ContainsFunc__hang_comes_1_ok : FnOK Try.prog 57 := ⟨Try.f57, codeOf Try.f57, Try.func57, by kernel_rfl, by kernel_rfl⟩
theorem slices_ContainsFunc__hang_comes_1_holds (nf : Nat) : Contract.Holds Try.prog 57 (slices_ContainsFunc__hang_comes_1_C nf) :=
  fn_holds (Φ := slices_ContainsFunc__hang_comes_1_phi nf) (keep := slices_ContainsFunc__hang_comes_1_keep) (n := nf) ⟨tabs.1, tabs.2, (ctx_cons slices_IndexFunc__hang_comes_1_ok (slices_IndexFunc__hang_comes_1_holds nf) ctx_nil), mixed⟩ (fn := Try.f57) ⟨Try.func57, by kernel_rfl, by kernel_rfl, by kernel_rfl⟩ (fun x => slices_ContainsFunc__hang_comes_1_eq nf x.1 x.2.1)

/-! codemason hang.comes -/
def hang_comes_phi (nf : Nat) : Nat → Option Contract := lookC [(57, slices_ContainsFunc__hang_comes_1_C nf)]
def hang_comes_keep : Nat → List Nat := lookK [(2, [0, 1, 5, 10, 11, 13, 14, 15]), (0, [0, 1, 5, 10, 11])]
def hang_comes_b0 (nf : Nat) (l2 : List (List Int) → Int → Int → Int → Int → Option (Int × Unit)) (next : List (List Int)) (without : Int) (g0 : Int → Int → Option (Int × Unit)) (set' : Int) (t11 : Int) : Option (Int × Unit) :=
  bif decide (t11 < (↑next.length : Int)) then
    l2 next without t11 set' 0
  else
    some ((set', ()))
def hang_comes_b2 (nf : Nat) (next : List (List Int)) (without : Int) (t11 : Int) (g0 : Int → Int → Option (Int × Unit)) (g2 : Int → Int → Option (Int × Unit)) (set'2 : Int) (t15 : Int) : Option (Int × Unit) :=
  bif decide (t15 < (↑next.length : Int)) then
    bif inb t15 next.length then
      Option.bind (slices_ContainsFunc__hang_comes_1_f nf (next.getD t15.toNat []) ((set'2, ()))) fun r =>
      bif t15 != without then
        bif (↑(List.length (next.getD t15.toNat [])) : Int) == 0 then
          bif decide (0 ≤ t15) then
            g2 (IntKind.u32.wrap (↑(BitVec.ofInt IntKind.u32.bits set'2 ||| BitVec.ofInt IntKind.u32.bits (shlI IntKind.u32 1 t15)).toNat : Int)) (IntKind.i64.wrap (t15 + 1))
          else
            none
        else
          bif r.fst then
            bif decide (0 ≤ t15) then
              g2 (IntKind.u32.wrap (↑(BitVec.ofInt IntKind.u32.bits set'2 ||| BitVec.ofInt IntKind.u32.bits (shlI IntKind.u32 1 t15)).toNat : Int)) (IntKind.i64.wrap (t15 + 1))
            else
              none
          else
            g2 set'2 (IntKind.i64.wrap (t15 + 1))
      else
        g2 set'2 (IntKind.i64.wrap (t15 + 1))
    else
      none
  else
    g0 set'2 (IntKind.i64.wrap (t11 + 1))
def hang_comes_p (nf : Nat) (l0 : List (List Int) → Int → Int → Int → Option (Int × Unit)) (next : List (List Int)) (without : Int) : Option (Int × Unit) :=
  l0 next without 0 0
def hang_comes_l2 (nf : Nat) (next : List (List Int)) (without : Int) (t11 : Int) (g0 : Int → Int → Option (Int × Unit)) : Nat → Int → Int → Option (Int × Unit)
  | 0, _, _ => none
  | fu + 1, set'2, t15 => hang_comes_b2 nf  next without t11 g0 (hang_comes_l2 nf next without t11 g0 fu) set'2 t15
def hang_comes_l0 (nf : Nat) (next : List (List Int)) (without : Int) : Nat → Int → Int → Option (Int × Unit)
  | 0, _, _ => none
  | fu + 1, set', t11 => hang_comes_b0 nf (fun _ _ p2 v0 v1 => hang_comes_l2 nf next without p2 (fun set' t11 => hang_comes_l0 nf next without  fu set' t11) nf v0 v1) next without  (hang_comes_l0 nf next without  fu) set' t11
def hang_comes_f (nf : Nat) (next : List (List Int)) (without : Int) : Option (Int × Unit) := hang_comes_p nf (fun p0 p1 v0 v1 => hang_comes_l0 nf p0 p1 nf v0 v1) next without
noncomputable def hang_comes_L0 (nf : Nat) : LC (Int × Unit) := theL (findL tab (hang_comes_phi nf) (fun _ F => iter nf F) hang_comes_keep 0 0 (codeOf Try.f79) (fin [(Ty.int IntKind.u32, Md.bor false true)] Try.f79.results.toList) (fun _ _ => none) (fin [(Ty.int IntKind.u32, Md.bor false true)] Try.f79.results.toList))
def hang_comes_m0 (next : List (List Int)) (without : Int) (set' : Int) (t11 : Int) : St := ⟨fresh, [(0, AV.v (Ty.int IntKind.i64).sl.sl (Md.bor true false) next), (1, AV.v (Ty.int IntKind.i64) (Md.bor false true) without), (5, AV.box 5 500005 (Ty.int IntKind.u32) (Md.bor false true) set'), (10, AV.v (Ty.int IntKind.i64) (Md.bor false true) (↑next.length : Int)), (11, AV.v (Ty.int IntKind.i64) (Md.bor false true) t11)]⟩
noncomputable def hang_comes_L2 (nf : Nat) (G0 : St → Option (Int × Unit)) : LC (Int × Unit) := theL (findL tab (hang_comes_phi nf) (fun _ F => iter nf F) hang_comes_keep 2 0 (hang_comes_L0 nf ).c (fun st => norm (hang_comes_keep 0) st G0) (hang_comes_L0 nf ).Kx (hang_comes_L0 nf ).Kr)
def hang_comes_m2 (next : List (List Int)) (without : Int) (t11 : Int) (set'2 : Int) (t15 : Int) : St := ⟨fresh, [(0, AV.v (Ty.int IntKind.i64).sl.sl (Md.bor true false) next), (1, AV.v (Ty.int IntKind.i64) (Md.bor false true) without), (5, AV.box 5 500005 (Ty.int IntKind.u32) (Md.bor false true) set'2), (10, AV.v (Ty.int IntKind.i64) (Md.bor false true) (↑next.length : Int)), (11, AV.v (Ty.int IntKind.i64) (Md.bor false true) t11), (13, AV.v (Ty.int IntKind.i64).sl.sl (Md.bor true false) next), (14, AV.v (Ty.int IntKind.i64) (Md.bor false true) (↑next.length : Int)), (15, AV.v (Ty.int IntKind.i64) (Md.bor false true) t15)]⟩
theorem hang_comes_h2 (nf : Nat) (G0 : St → Option (Int × Unit)) (next : List (List Int)) (without : Int) (t11 : Int) (fu : Nat) (set'2 : Int) (t15 : Int) : iter (fu + 1) (LC.F tab (hang_comes_phi nf) (fun _ F => iter nf F) hang_comes_keep 2 (hang_comes_L2 nf G0)) (hang_comes_m2 next without t11 set'2 t15) = hang_comes_b2 nf  next without t11 (fun set' t11 => G0 (hang_comes_m0 next without set' t11)) (fun set'2 t15 => iter fu (LC.F tab (hang_comes_phi nf) (fun _ F => iter nf F) hang_comes_keep 2 (hang_comes_L2 nf G0)) (hang_comes_m2 next without t11 set'2 t15)) set'2 t15 := by kernel_rfl
theorem hang_comes_e2 (nf : Nat) (G0 : St → Option (Int × Unit)) (next : List (List Int)) (without : Int) (t11 : Int) : ∀ (fu : Nat) (set'2 : Int) (t15 : Int), iter fu (LC.F tab (hang_comes_phi nf) (fun _ F => iter nf F) hang_comes_keep 2 (hang_comes_L2 nf G0)) (hang_comes_m2 next without t11 set'2 t15) = hang_comes_l2 nf next without t11 (fun set' t11 => G0 (hang_comes_m0 next without set' t11)) fu set'2 t15 := by
  intro fu
  induction fu with
  | zero => intros; rfl
  | succ fu ih =>
    intro set'2 t15
    rw [hang_comes_h2 nf G0 next without t11 fu set'2 t15]
    simp only [ih]
    rfl
theorem hang_comes_h0 (nf : Nat)  (next : List (List Int)) (without : Int) (fu : Nat) (set' : Int) (t11 : Int) : iter (fu + 1) (LC.F tab (hang_comes_phi nf) (fun _ F => iter nf F) hang_comes_keep 0 (hang_comes_L0 nf )) (hang_comes_m0 next without set' t11) = hang_comes_b0 nf (fun _ _ p2 v0 v1 => iter nf (LC.F tab (hang_comes_phi nf) (fun _ F => iter nf F) hang_comes_keep 2 (hang_comes_L2 nf (iter fu (LC.F tab (hang_comes_phi nf) (fun _ F => iter nf F) hang_comes_keep 0 (hang_comes_L0 nf ))))) (hang_comes_m2 next without p2 v0 v1)) next without  (fun set' t11 => iter fu (LC.F tab (hang_comes_phi nf) (fun _ F => iter nf F) hang_comes_keep 0 (hang_comes_L0 nf )) (hang_comes_m0 next without set' t11)) set' t11 := by kernel_rfl
theorem hang_comes_e0 (nf : Nat)  (next : List (List Int)) (without : Int) : ∀ (fu : Nat) (set' : Int) (t11 : Int), iter fu (LC.F tab (hang_comes_phi nf) (fun _ F => iter nf F) hang_comes_keep 0 (hang_comes_L0 nf )) (hang_comes_m0 next without set' t11) = hang_comes_l0 nf next without  fu set' t11 := by
  intro fu
  induction fu with
  | zero => intros; rfl
  | succ fu ih =>
    intro set' t11
    rw [hang_comes_h0 nf  next without fu set' t11]
    simp only [ih, hang_comes_e2]
    rfl
theorem hang_comes_eq (nf : Nat) (next : List (List Int)) (without : Int) : runF tab (hang_comes_phi nf) hang_comes_keep nf [PT.val (Ty.int IntKind.i64).sl.sl (Md.bor true false), PT.val (Ty.int IntKind.i64) (Md.bor true false)] [(Ty.int IntKind.u32, Md.bor false true)] Try.f79.results.toList (codeOf Try.f79) ⟨next, without, ()⟩ = hang_comes_f nf next without := by
  have h : runF tab (hang_comes_phi nf) hang_comes_keep nf [PT.val (Ty.int IntKind.i64).sl.sl (Md.bor true false), PT.val (Ty.int IntKind.i64) (Md.bor true false)] [(Ty.int IntKind.u32, Md.bor false true)] Try.f79.results.toList (codeOf Try.f79) ⟨next, without, ()⟩ = hang_comes_p nf (fun p0 p1 v0 v1 => iter nf (LC.F tab (hang_comes_phi nf) (fun _ F => iter nf F) hang_comes_keep 0 (hang_comes_L0 nf)) (hang_comes_m0 p0 p1 v0 v1)) next without := by kernel_rfl
  rw [h]
  simp only [hang_comes_e0]
  rfl
def hang_comes_F (nf : Nat) (x : denPs [.val (.sl (.sl (.int .i64))) (.bor true false), .val (.int .i64) (.bor true false)]) : Option (denL [(.int .u32, .bor false true)]) := hang_comes_f nf x.1 x.2.1
def hang_comes_C (nf : Nat) : Contract := ⟨[.val (.sl (.sl (.int .i64))) (.bor true false), .val (.int .i64) (.bor true false)], [(.int .u32, .bor false true)], hang_comes_F nf⟩
theorem hang_comes_ok : FnOK Try.prog 79 := ⟨Try.f79, codeOf Try.f79, Try.func79, by kernel_rfl, by kernel_rfl⟩
theorem hang_comes_holds (nf : Nat) : Contract.Holds Try.prog 79 (hang_comes_C nf) :=
  fn_holds (Φ := hang_comes_phi nf) (keep := hang_comes_keep) (n := nf) ⟨tabs.1, tabs.2, (ctx_cons slices_ContainsFunc__hang_comes_1_ok (slices_ContainsFunc__hang_comes_1_holds nf) ctx_nil), mixed⟩ (fn := Try.f79) ⟨Try.func79, by kernel_rfl, by kernel_rfl, by kernel_rfl⟩ (fun x => hang_comes_eq nf x.1 x.2.1)

/-! codemason hang.last -/
def hang_last_phi (nf : Nat) : Nat → Option Contract := lookC [(79, hang_comes_C nf)]
def hang_last_keep : Nat → List Nat := lookK [(2, [0, 3, 4, 5, 6, 12, 14, 15, 24, 25]), (0, [0, 3, 4, 12, 14, 15])]
def hang_last_b0 (nf : Nat) (l2 : List (List Int) → Int × Unit → Int → Int × Unit → List Int → List Int → Int → Option (List Int × Unit)) (next : List (List Int)) (r : Int × Unit) (g0 : List Int → Int → Option (List Int × Unit)) (out : List Int) (t15 : Int) : Option (List Int × Unit) :=
  bif decide (t15 < (↑next.length : Int)) then
    Option.bind (hang_comes_f nf next t15) fun r2 =>
    l2 next r t15 r2 out out 0
  else
    some ((out, ()))
def hang_last_b2 (nf : Nat) (next : List (List Int)) (r : Int × Unit) (t15 : Int) (r2 : Int × Unit) (out : List Int) (g0 : List Int → Int → Option (List Int × Unit)) (g2 : List Int → Int → Option (List Int × Unit)) (out2 : List Int) (t25 : Int) : Option (List Int × Unit) :=
  bif decide (t25 < (↑out.length : Int)) then
    bif inb t25 out2.length then
      bif decide (0 ≤ t25) then
        bif decide (0 ≤ t15) then
          bif inb t25 out2.length then
            g2 (out2.set t25.toNat (IntKind.u32.wrap (↑(BitVec.ofInt IntKind.u32.bits (out2.getD t25.toNat 0) ||| BitVec.ofInt IntKind.u32.bits (shlI IntKind.u32 (IntKind.u32.wrap (↑(BitVec.ofInt IntKind.u32.bits (shrI IntKind.u32 (IntKind.u32.wrap (↑(BitVec.ofInt IntKind.u32.bits r.fst &&& ~~~BitVec.ofInt IntKind.u32.bits r2.fst).toNat : Int)) t25) &&& BitVec.ofInt IntKind.u32.bits 1).toNat : Int)) t15)).toNat : Int))) (IntKind.i64.wrap (t25 + 1))
          else
            none
        else
          none
      else
        none
    else
      none
  else
    g0 out2 (IntKind.i64.wrap (t15 + 1))
def hang_last_p (nf : Nat) (l0 : List (List Int) → Int × Unit → List Int → Int → Option (List Int × Unit)) (next : List (List Int)) : Option (List Int × Unit) :=
  Option.bind (hang_comes_f nf next (-1)) fun r =>
  bif decide (0 ≤ (↑next.length : Int)) && decide ((↑next.length : Int) ≤ (↑next.length : Int)) && decide ((↑next.length : Int) ≤ (↑lim : Int)) then
    l0 next r (List.replicate (↑next.length : Int).toNat 0) 0
  else
    none
def hang_last_l2 (nf : Nat) (next : List (List Int)) (r : Int × Unit) (t15 : Int) (r2 : Int × Unit) (out : List Int) (g0 : List Int → Int → Option (List Int × Unit)) : Nat → List Int → Int → Option (List Int × Unit)
  | 0, _, _ => none
  | fu + 1, out2, t25 => hang_last_b2 nf  next r t15 r2 out g0 (hang_last_l2 nf next r t15 r2 out g0 fu) out2 t25
def hang_last_l0 (nf : Nat) (next : List (List Int)) (r : Int × Unit) : Nat → List Int → Int → Option (List Int × Unit)
  | 0, _, _ => none
  | fu + 1, out, t15 => hang_last_b0 nf (fun _ _ p2 p3 p4 v0 v1 => hang_last_l2 nf next r p2 p3 p4 (fun out t15 => hang_last_l0 nf next r  fu out t15) nf v0 v1) next r  (hang_last_l0 nf next r  fu) out t15
def hang_last_f (nf : Nat) (next : List (List Int)) : Option (List Int × Unit) := hang_last_p nf (fun p0 p1 v0 v1 => hang_last_l0 nf p0 p1 nf v0 v1) next
noncomputable def hang_last_L0 (nf : Nat) : LC (List Int × Unit) := theL (findL tab (hang_last_phi nf) (fun _ F => iter nf F) hang_last_keep 0 0 (codeOf Try.f69) (fin [((Ty.int IntKind.u32).sl, Md.own false (Md.bor false false))] Try.f69.results.toList) (fun _ _ => none) (fin [((Ty.int IntKind.u32).sl, Md.own false (Md.bor false false))] Try.f69.results.toList))
def hang_last_m0 (next : List (List Int)) (r : Int × Unit) (out : List Int) (t15 : Int) : St := ⟨fresh, [(0, AV.v (Ty.int IntKind.i64).sl.sl (Md.bor true false) next), (3, AV.v (Ty.int IntKind.u32) (Md.bor false true) r.fst), (4, AV.ow 500004 (Ty.int IntKind.u32).sl (Md.own false (Md.bor false false)) out), (12, AV.dead), (14, AV.v (Ty.int IntKind.i64) (Md.bor false true) (↑next.length : Int)), (15, AV.v (Ty.int IntKind.i64) (Md.bor false true) t15)]⟩
noncomputable def hang_last_L2 (nf : Nat) (G0 : St → Option (List Int × Unit)) : LC (List Int × Unit) := theL (findL tab (hang_last_phi nf) (fun _ F => iter nf F) hang_last_keep 2 0 (hang_last_L0 nf ).c (fun st => norm (hang_last_keep 0) st G0) (hang_last_L0 nf ).Kx (hang_last_L0 nf ).Kr)
def hang_last_m2 (next : List (List Int)) (r : Int × Unit) (t15 : Int) (r2 : Int × Unit) (out : List Int) (out2 : List Int) (t25 : Int) : St := ⟨fresh, [(0, AV.v (Ty.int IntKind.i64).sl.sl (Md.bor true false) next), (3, AV.v (Ty.int IntKind.u32) (Md.bor false true) r.fst), (4, AV.ow 500004 (Ty.int IntKind.u32).sl (Md.own false (Md.bor false false)) out2), (5, AV.v (Ty.int IntKind.i64) (Md.bor false true) t15), (6, AV.v (Ty.int IntKind.u32) (Md.bor false true) (IntKind.u32.wrap (↑(BitVec.ofInt IntKind.u32.bits r.fst &&& ~~~BitVec.ofInt IntKind.u32.bits r2.fst).toNat : Int))), (12, AV.dead), (14, AV.v (Ty.int IntKind.i64) (Md.bor false true) (↑next.length : Int)), (15, AV.v (Ty.int IntKind.i64) (Md.bor false true) t15), (24, AV.v (Ty.int IntKind.i64) (Md.bor false true) (↑out.length : Int)), (25, AV.v (Ty.int IntKind.i64) (Md.bor false true) t25)]⟩
theorem hang_last_h2 (nf : Nat) (G0 : St → Option (List Int × Unit)) (next : List (List Int)) (r : Int × Unit) (t15 : Int) (r2 : Int × Unit) (out : List Int) (fu : Nat) (out2 : List Int) (t25 : Int) : iter (fu + 1) (LC.F tab (hang_last_phi nf) (fun _ F => iter nf F) hang_last_keep 2 (hang_last_L2 nf G0)) (hang_last_m2 next r t15 r2 out out2 t25) = hang_last_b2 nf  next r t15 r2 out (fun out t15 => G0 (hang_last_m0 next r out t15)) (fun out2 t25 => iter fu (LC.F tab (hang_last_phi nf) (fun _ F => iter nf F) hang_last_keep 2 (hang_last_L2 nf G0)) (hang_last_m2 next r t15 r2 out out2 t25)) out2 t25 := by kernel_rfl
theorem hang_last_e2 (nf : Nat) (G0 : St → Option (List Int × Unit)) (next : List (List Int)) (r : Int × Unit) (t15 : Int) (r2 : Int × Unit) (out : List Int) : ∀ (fu : Nat) (out2 : List Int) (t25 : Int), iter fu (LC.F tab (hang_last_phi nf) (fun _ F => iter nf F) hang_last_keep 2 (hang_last_L2 nf G0)) (hang_last_m2 next r t15 r2 out out2 t25) = hang_last_l2 nf next r t15 r2 out (fun out t15 => G0 (hang_last_m0 next r out t15)) fu out2 t25 := by
  intro fu
  induction fu with
  | zero => intros; rfl
  | succ fu ih =>
    intro out2 t25
    rw [hang_last_h2 nf G0 next r t15 r2 out fu out2 t25]
    simp only [ih]
    rfl
theorem hang_last_h0 (nf : Nat)  (next : List (List Int)) (r : Int × Unit) (fu : Nat) (out : List Int) (t15 : Int) : iter (fu + 1) (LC.F tab (hang_last_phi nf) (fun _ F => iter nf F) hang_last_keep 0 (hang_last_L0 nf )) (hang_last_m0 next r out t15) = hang_last_b0 nf (fun _ _ p2 p3 p4 v0 v1 => iter nf (LC.F tab (hang_last_phi nf) (fun _ F => iter nf F) hang_last_keep 2 (hang_last_L2 nf (iter fu (LC.F tab (hang_last_phi nf) (fun _ F => iter nf F) hang_last_keep 0 (hang_last_L0 nf ))))) (hang_last_m2 next r p2 p3 p4 v0 v1)) next r  (fun out t15 => iter fu (LC.F tab (hang_last_phi nf) (fun _ F => iter nf F) hang_last_keep 0 (hang_last_L0 nf )) (hang_last_m0 next r out t15)) out t15 := by kernel_rfl
theorem hang_last_e0 (nf : Nat)  (next : List (List Int)) (r : Int × Unit) : ∀ (fu : Nat) (out : List Int) (t15 : Int), iter fu (LC.F tab (hang_last_phi nf) (fun _ F => iter nf F) hang_last_keep 0 (hang_last_L0 nf )) (hang_last_m0 next r out t15) = hang_last_l0 nf next r  fu out t15 := by
  intro fu
  induction fu with
  | zero => intros; rfl
  | succ fu ih =>
    intro out t15
    rw [hang_last_h0 nf  next r fu out t15]
    simp only [ih, hang_last_e2]
    rfl
theorem hang_last_eq (nf : Nat) (next : List (List Int)) : runF tab (hang_last_phi nf) hang_last_keep nf [PT.val (Ty.int IntKind.i64).sl.sl (Md.bor true false)] [((Ty.int IntKind.u32).sl, Md.own false (Md.bor false false))] Try.f69.results.toList (codeOf Try.f69) ⟨next, ()⟩ = hang_last_f nf next := by
  have h : runF tab (hang_last_phi nf) hang_last_keep nf [PT.val (Ty.int IntKind.i64).sl.sl (Md.bor true false)] [((Ty.int IntKind.u32).sl, Md.own false (Md.bor false false))] Try.f69.results.toList (codeOf Try.f69) ⟨next, ()⟩ = hang_last_p nf (fun p0 p1 v0 v1 => iter nf (LC.F tab (hang_last_phi nf) (fun _ F => iter nf F) hang_last_keep 0 (hang_last_L0 nf)) (hang_last_m0 p0 p1 v0 v1)) next := by kernel_rfl
  rw [h]
  simp only [hang_last_e0]
  rfl
def hang_last_F (nf : Nat) (x : denPs [.val (.sl (.sl (.int .i64))) (.bor true false)]) : Option (denL [(.sl (.int .u32), .own false (.bor false false))]) := hang_last_f nf x.1
def hang_last_C (nf : Nat) : Contract := ⟨[.val (.sl (.sl (.int .i64))) (.bor true false)], [(.sl (.int .u32), .own false (.bor false false))], hang_last_F nf⟩
theorem hang_last_ok : FnOK Try.prog 69 := ⟨Try.f69, codeOf Try.f69, Try.func69, by kernel_rfl, by kernel_rfl⟩
theorem hang_last_holds (nf : Nat) : Contract.Holds Try.prog 69 (hang_last_C nf) :=
  fn_holds (Φ := hang_last_phi nf) (keep := hang_last_keep) (n := nf) ⟨tabs.1, tabs.2, (ctx_cons hang_comes_ok (hang_comes_holds nf) ctx_nil), mixed⟩ (fn := Try.f69) ⟨Try.func69, by kernel_rfl, by kernel_rfl, by kernel_rfl⟩ (fun x => hang_last_eq nf x.1)

/-! codemason hang.Last -/
def hang_Last_phi (nf : Nat) : Nat → Option Contract := lookC [(20, way_Check_C nf), (69, hang_last_C nf)]
def hang_Last_keep : Nat → List Nat := lookK []
def hang_Last_p (nf : Nat)  (next : List (List Int)) : Option (List Int × Int × Unit) :=
  Option.bind (way_Check_f nf next) fun r =>
  bif r.fst != 0 then
    some (([], r.fst, ()))
  else
    Option.bind (hang_last_f nf next) fun r2 =>
    some ((r2.fst, 0, ()))
def hang_Last_f (nf : Nat) (next : List (List Int)) : Option (List Int × Int × Unit) := hang_Last_p nf  next
theorem hang_Last_eq (nf : Nat) (next : List (List Int)) : runF tab (hang_Last_phi nf) hang_Last_keep nf [PT.val (Ty.int IntKind.i64).sl.sl (Md.bor true false)] [((Ty.int IntKind.u32).sl, Md.own false (Md.bor false false)), (Ty.int IntKind.i64, Md.bor false true)] Try.f47.results.toList (codeOf Try.f47) ⟨next, ()⟩ = hang_Last_f nf next := by
  have h : runF tab (hang_Last_phi nf) hang_Last_keep nf [PT.val (Ty.int IntKind.i64).sl.sl (Md.bor true false)] [((Ty.int IntKind.u32).sl, Md.own false (Md.bor false false)), (Ty.int IntKind.i64, Md.bor false true)] Try.f47.results.toList (codeOf Try.f47) ⟨next, ()⟩ = hang_Last_p nf  next := by kernel_rfl
  exact h
def hang_Last_F (nf : Nat) (x : denPs [.val (.sl (.sl (.int .i64))) (.bor true false)]) : Option (denL [(.sl (.int .u32), .own false (.bor false false)), (.int .i64, .bor false true)]) := hang_Last_f nf x.1
def hang_Last_C (nf : Nat) : Contract := ⟨[.val (.sl (.sl (.int .i64))) (.bor true false)], [(.sl (.int .u32), .own false (.bor false false)), (.int .i64, .bor false true)], hang_Last_F nf⟩
theorem hang_Last_ok : FnOK Try.prog 47 := ⟨Try.f47, codeOf Try.f47, Try.func47, by kernel_rfl, by kernel_rfl⟩
theorem hang_Last_holds (nf : Nat) : Contract.Holds Try.prog 47 (hang_Last_C nf) :=
  fn_holds (Φ := hang_Last_phi nf) (keep := hang_Last_keep) (n := nf) ⟨tabs.1, tabs.2, (ctx_cons way_Check_ok (way_Check_holds nf) (ctx_cons hang_last_ok (hang_last_holds nf) ctx_nil)), mixed⟩ (fn := Try.f47) ⟨Try.func47, by kernel_rfl, by kernel_rfl, by kernel_rfl⟩ (fun x => hang_Last_eq nf x.1)

/-! codemason codemasonref.ends -/
def ref_ends_phi (nf : Nat) : Nat → Option Contract := lookC [(24, ref_Reach_C nf)]
def ref_ends_keep : Nat → List Nat := lookK [(0, [0, 12, 13, 14])]
def ref_ends_b0 (nf : Nat) (next : List (List Int)) (r : List Int × Unit) (g0 : List Int → Int → Option (Bool × Unit)) (t12 : List Int) (t14 : Int) : Option (Bool × Unit) :=
  bif decide (t14 < (↑(List.length r.fst) : Int)) then
    bif inb t14 t12.length then
      bif inb (t12.getD t14.toNat 0) next.length then
        bif (↑(List.length (next.getD (Int.toNat (t12.getD t14.toNat 0)) [])) : Int) == 0 then
          some ((true, ()))
        else
          g0 t12 (IntKind.i64.wrap (t14 + 1))
      else
        none
    else
      none
  else
    some ((false, ()))
def ref_ends_p (nf : Nat) (l0 : List (List Int) → List Int × Unit → List Int → Int → Option (Bool × Unit)) (next : List (List Int)) (i : Int) (without : Int) : Option (Bool × Unit) :=
  Option.bind (ref_Reach_f nf next i without) fun r =>
  l0 next r r.fst 0
def ref_ends_l0 (nf : Nat) (next : List (List Int)) (r : List Int × Unit) : Nat → List Int → Int → Option (Bool × Unit)
  | 0, _, _ => none
  | fu + 1, t12, t14 => ref_ends_b0 nf  next r  (ref_ends_l0 nf next r  fu) t12 t14
def ref_ends_f (nf : Nat) (next : List (List Int)) (i : Int) (without : Int) : Option (Bool × Unit) := ref_ends_p nf (fun p0 p1 v0 v1 => ref_ends_l0 nf p0 p1 nf v0 v1) next i without
noncomputable def ref_ends_L0 (nf : Nat) : LC (Bool × Unit) := theL (findL tab (ref_ends_phi nf) (fun _ F => iter nf F) ref_ends_keep 0 0 (codeOf Try.f70) (fin [(Ty.bool, Md.bor false true)] Try.f70.results.toList) (fun _ _ => none) (fin [(Ty.bool, Md.bor false true)] Try.f70.results.toList))
def ref_ends_m0 (next : List (List Int)) (r : List Int × Unit) (t12 : List Int) (t14 : Int) : St := ⟨fresh, [(0, AV.v (Ty.int IntKind.i64).sl.sl (Md.bor true false) next), (12, AV.ow 500012 (Ty.int IntKind.i64).sl (Md.own false (Md.bor false false)) t12), (13, AV.v (Ty.int IntKind.i64) (Md.bor false true) (↑(List.length r.fst) : Int)), (14, AV.v (Ty.int IntKind.i64) (Md.bor false true) t14)]⟩
theorem ref_ends_h0 (nf : Nat)  (next : List (List Int)) (r : List Int × Unit) (fu : Nat) (t12 : List Int) (t14 : Int) : iter (fu + 1) (LC.F tab (ref_ends_phi nf) (fun _ F => iter nf F) ref_ends_keep 0 (ref_ends_L0 nf )) (ref_ends_m0 next r t12 t14) = ref_ends_b0 nf  next r  (fun t12 t14 => iter fu (LC.F tab (ref_ends_phi nf) (fun _ F => iter nf F) ref_ends_keep 0 (ref_ends_L0 nf )) (ref_ends_m0 next r t12 t14)) t12 t14 := by kernel_rfl
theorem ref_ends_e0 (nf : Nat)  (next : List (List Int)) (r : List Int × Unit) : ∀ (fu : Nat) (t12 : List Int) (t14 : Int), iter fu (LC.F tab (ref_ends_phi nf) (fun _ F => iter nf F) ref_ends_keep 0 (ref_ends_L0 nf )) (ref_ends_m0 next r t12 t14) = ref_ends_l0 nf next r  fu t12 t14 := by
  intro fu
  induction fu with
  | zero => intros; rfl
  | succ fu ih =>
    intro t12 t14
    rw [ref_ends_h0 nf  next r fu t12 t14]
    simp only [ih]
    rfl
theorem ref_ends_eq (nf : Nat) (next : List (List Int)) (i : Int) (without : Int) : runF tab (ref_ends_phi nf) ref_ends_keep nf [PT.val (Ty.int IntKind.i64).sl.sl (Md.bor true false), PT.val (Ty.int IntKind.i64) (Md.bor true false), PT.val (Ty.int IntKind.i64) (Md.bor true false)] [(Ty.bool, Md.bor false true)] Try.f70.results.toList (codeOf Try.f70) ⟨next, i, without, ()⟩ = ref_ends_f nf next i without := by
  have h : runF tab (ref_ends_phi nf) ref_ends_keep nf [PT.val (Ty.int IntKind.i64).sl.sl (Md.bor true false), PT.val (Ty.int IntKind.i64) (Md.bor true false), PT.val (Ty.int IntKind.i64) (Md.bor true false)] [(Ty.bool, Md.bor false true)] Try.f70.results.toList (codeOf Try.f70) ⟨next, i, without, ()⟩ = ref_ends_p nf (fun p0 p1 v0 v1 => iter nf (LC.F tab (ref_ends_phi nf) (fun _ F => iter nf F) ref_ends_keep 0 (ref_ends_L0 nf)) (ref_ends_m0 p0 p1 v0 v1)) next i without := by kernel_rfl
  rw [h]
  simp only [ref_ends_e0]
  rfl
def ref_ends_F (nf : Nat) (x : denPs [.val (.sl (.sl (.int .i64))) (.bor true false), .val (.int .i64) (.bor true false), .val (.int .i64) (.bor true false)]) : Option (denL [(.bool, .bor false true)]) := ref_ends_f nf x.1 x.2.1 x.2.2.1
def ref_ends_C (nf : Nat) : Contract := ⟨[.val (.sl (.sl (.int .i64))) (.bor true false), .val (.int .i64) (.bor true false), .val (.int .i64) (.bor true false)], [(.bool, .bor false true)], ref_ends_F nf⟩
theorem ref_ends_ok : FnOK Try.prog 70 := ⟨Try.f70, codeOf Try.f70, Try.func70, by kernel_rfl, by kernel_rfl⟩
theorem ref_ends_holds (nf : Nat) : Contract.Holds Try.prog 70 (ref_ends_C nf) :=
  fn_holds (Φ := ref_ends_phi nf) (keep := ref_ends_keep) (n := nf) ⟨tabs.1, tabs.2, (ctx_cons ref_Reach_ok (ref_Reach_holds nf) ctx_nil), mixed⟩ (fn := Try.f70) ⟨Try.func70, by kernel_rfl, by kernel_rfl, by kernel_rfl⟩ (fun x => ref_ends_eq nf x.1 x.2.1 x.2.2.1)

/-! codemason codemasonref.Sure -/
def ref_Sure_phi (nf : Nat) : Nat → Option Contract := lookC [(70, ref_ends_C nf)]
def ref_Sure_keep : Nat → List Nat := lookK []
def ref_Sure_p (nf : Nat)  (next : List (List Int)) (i : Int) (k' : Int) : Option (Bool × Unit) :=
  Option.bind (ref_ends_f nf next i (-1)) fun r =>
  bif r.fst then
    bif i == k' then
      some ((true, ()))
    else
      Option.bind (ref_ends_f nf next i k') fun r2 =>
      some ((!r2.fst, ()))
  else
    some ((false, ()))
def ref_Sure_f (nf : Nat) (next : List (List Int)) (i : Int) (k' : Int) : Option (Bool × Unit) := ref_Sure_p nf  next i k'
theorem ref_Sure_eq (nf : Nat) (next : List (List Int)) (i : Int) (k' : Int) : runF tab (ref_Sure_phi nf) ref_Sure_keep nf [PT.val (Ty.int IntKind.i64).sl.sl (Md.bor true false), PT.val (Ty.int IntKind.i64) (Md.bor true false), PT.val (Ty.int IntKind.i64) (Md.bor true false)] [(Ty.bool, Md.bor false true)] Try.f48.results.toList (codeOf Try.f48) ⟨next, i, k', ()⟩ = ref_Sure_f nf next i k' := by
  have h : runF tab (ref_Sure_phi nf) ref_Sure_keep nf [PT.val (Ty.int IntKind.i64).sl.sl (Md.bor true false), PT.val (Ty.int IntKind.i64) (Md.bor true false), PT.val (Ty.int IntKind.i64) (Md.bor true false)] [(Ty.bool, Md.bor false true)] Try.f48.results.toList (codeOf Try.f48) ⟨next, i, k', ()⟩ = ref_Sure_p nf  next i k' := by kernel_rfl
  exact h
def ref_Sure_F (nf : Nat) (x : denPs [.val (.sl (.sl (.int .i64))) (.bor true false), .val (.int .i64) (.bor true false), .val (.int .i64) (.bor true false)]) : Option (denL [(.bool, .bor false true)]) := ref_Sure_f nf x.1 x.2.1 x.2.2.1
def ref_Sure_C (nf : Nat) : Contract := ⟨[.val (.sl (.sl (.int .i64))) (.bor true false), .val (.int .i64) (.bor true false), .val (.int .i64) (.bor true false)], [(.bool, .bor false true)], ref_Sure_F nf⟩
theorem ref_Sure_ok : FnOK Try.prog 48 := ⟨Try.f48, codeOf Try.f48, Try.func48, by kernel_rfl, by kernel_rfl⟩
theorem ref_Sure_holds (nf : Nat) : Contract.Holds Try.prog 48 (ref_Sure_C nf) :=
  fn_holds (Φ := ref_Sure_phi nf) (keep := ref_Sure_keep) (n := nf) ⟨tabs.1, tabs.2, (ctx_cons ref_ends_ok (ref_ends_holds nf) ctx_nil), mixed⟩ (fn := Try.f48) ⟨Try.func48, by kernel_rfl, by kernel_rfl, by kernel_rfl⟩ (fun x => ref_Sure_eq nf x.1 x.2.1 x.2.2.1)

/-! codemason codemasonlaw.HangLasts -/
def law_HangLasts_phi (nf : Nat) : Nat → Option Contract := lookC [(21, ref_WayCheck_C nf), (29, ref_Bit_C nf), (30, ref_Fits_C nf), (47, hang_Last_C nf), (48, ref_Sure_C nf)]
def law_HangLasts_keep : Nat → List Nat := lookK [(2, [0, 3, 4, 6, 7, 8, 10, 11]), (0, [0, 3, 4, 6, 8, 10, 11])]
def law_HangLasts_b0 (nf : Nat) (l2 : List (List Int) → List Int × Int × Unit → Int → List Int → Int → Option (Bool × Unit)) (next : List (List Int)) (r : List Int × Int × Unit) (g0 : List Int → Int → Option (Bool × Unit)) (l' : List Int) (i : Int) : Option (Bool × Unit) :=
  bif decide (i < (↑l'.length : Int)) then
    bif decide (i < (↑next.length : Int)) then
      l2 next r i l' 0
    else
      bif r.snd.fst == 0 then
        some (((↑l'.length : Int) == (↑next.length : Int), ()))
      else
        some ((false, ()))
  else
    bif r.snd.fst == 0 then
      some (((↑l'.length : Int) == (↑next.length : Int), ()))
    else
      some ((false, ()))
def law_HangLasts_b2 (nf : Nat) (next : List (List Int)) (r : List Int × Int × Unit) (i : Int) (g0 : List Int → Int → Option (Bool × Unit)) (g2 : List Int → Int → Option (Bool × Unit)) (l'2 : List Int) (k' : Int) : Option (Bool × Unit) :=
  bif decide (k' < (↑next.length : Int)) then
    bif inb i l'2.length then
      Option.bind (ref_Bit_f nf (l'2.getD i.toNat 0) k') fun r3 =>
      Option.bind (ref_Sure_f nf next i k') fun r4 =>
      bif r3.fst != r4.fst then
        some ((false, ()))
      else
        g2 l'2 (IntKind.i64.wrap (k' + 1))
    else
      none
  else
    bif inb i l'2.length then
      Option.bind (ref_Fits_f nf ((↑next.length : Int)) (l'2.getD i.toNat 0)) fun r5 =>
      bif !r5.fst then
        some ((false, ()))
      else
        g0 l'2 (IntKind.i64.wrap (i + 1))
    else
      none
def law_HangLasts_p (nf : Nat) (l0 : List (List Int) → List Int × Int × Unit → List Int → Int → Option (Bool × Unit)) (next : List (List Int)) : Option (Bool × Unit) :=
  Option.bind (hang_Last_f nf next) fun r =>
  Option.bind (ref_WayCheck_f nf next) fun r2 =>
  bif r2.fst != 0 then
    bif r.snd.fst == r2.fst then
      some (((↑(List.length r.fst) : Int) == 0, ()))
    else
      some ((false, ()))
  else
    l0 next r r.fst 0
def law_HangLasts_l2 (nf : Nat) (next : List (List Int)) (r : List Int × Int × Unit) (i : Int) (g0 : List Int → Int → Option (Bool × Unit)) : Nat → List Int → Int → Option (Bool × Unit)
  | 0, _, _ => none
  | fu + 1, l'2, k' => law_HangLasts_b2 nf  next r i g0 (law_HangLasts_l2 nf next r i g0 fu) l'2 k'
def law_HangLasts_l0 (nf : Nat) (next : List (List Int)) (r : List Int × Int × Unit) : Nat → List Int → Int → Option (Bool × Unit)
  | 0, _, _ => none
  | fu + 1, l', i => law_HangLasts_b0 nf (fun _ _ p2 v0 v1 => law_HangLasts_l2 nf next r p2 (fun l' i => law_HangLasts_l0 nf next r  fu l' i) nf v0 v1) next r  (law_HangLasts_l0 nf next r  fu) l' i
def law_HangLasts_f (nf : Nat) (next : List (List Int)) : Option (Bool × Unit) := law_HangLasts_p nf (fun p0 p1 v0 v1 => law_HangLasts_l0 nf p0 p1 nf v0 v1) next
noncomputable def law_HangLasts_L0 (nf : Nat) : LC (Bool × Unit) := theL (findL tab (law_HangLasts_phi nf) (fun _ F => iter nf F) law_HangLasts_keep 0 0 (codeOf Try.f16) (fin [(Ty.bool, Md.bor false true)] Try.f16.results.toList) (fun _ _ => none) (fin [(Ty.bool, Md.bor false true)] Try.f16.results.toList))
def law_HangLasts_m0 (next : List (List Int)) (r : List Int × Int × Unit) (l' : List Int) (i : Int) : St := ⟨fresh, [(0, AV.v (Ty.int IntKind.i64).sl.sl (Md.bor true false) next), (3, AV.ow 500003 (Ty.int IntKind.u32).sl (Md.own false (Md.bor false false)) l'), (4, AV.v (Ty.int IntKind.i64) (Md.bor false true) r.snd.fst), (6, AV.v (Ty.int IntKind.i64) (Md.bor false true) i), (8, AV.dead), (10, AV.dead), (11, AV.dead)]⟩
noncomputable def law_HangLasts_L2 (nf : Nat) (G0 : St → Option (Bool × Unit)) : LC (Bool × Unit) := theL (findL tab (law_HangLasts_phi nf) (fun _ F => iter nf F) law_HangLasts_keep 2 0 (law_HangLasts_L0 nf ).c (fun st => norm (law_HangLasts_keep 0) st G0) (law_HangLasts_L0 nf ).Kx (law_HangLasts_L0 nf ).Kr)
def law_HangLasts_m2 (next : List (List Int)) (r : List Int × Int × Unit) (i : Int) (l'2 : List Int) (k' : Int) : St := ⟨fresh, [(0, AV.v (Ty.int IntKind.i64).sl.sl (Md.bor true false) next), (3, AV.ow 500003 (Ty.int IntKind.u32).sl (Md.own false (Md.bor false false)) l'2), (4, AV.v (Ty.int IntKind.i64) (Md.bor false true) r.snd.fst), (6, AV.v (Ty.int IntKind.i64) (Md.bor false true) i), (7, AV.v (Ty.int IntKind.i64) (Md.bor false true) k'), (8, AV.dead), (10, AV.dead), (11, AV.dead)]⟩
theorem law_HangLasts_h2 (nf : Nat) (G0 : St → Option (Bool × Unit)) (next : List (List Int)) (r : List Int × Int × Unit) (i : Int) (fu : Nat) (l'2 : List Int) (k' : Int) : iter (fu + 1) (LC.F tab (law_HangLasts_phi nf) (fun _ F => iter nf F) law_HangLasts_keep 2 (law_HangLasts_L2 nf G0)) (law_HangLasts_m2 next r i l'2 k') = law_HangLasts_b2 nf  next r i (fun l' i => G0 (law_HangLasts_m0 next r l' i)) (fun l'2 k' => iter fu (LC.F tab (law_HangLasts_phi nf) (fun _ F => iter nf F) law_HangLasts_keep 2 (law_HangLasts_L2 nf G0)) (law_HangLasts_m2 next r i l'2 k')) l'2 k' := by kernel_rfl
theorem law_HangLasts_e2 (nf : Nat) (G0 : St → Option (Bool × Unit)) (next : List (List Int)) (r : List Int × Int × Unit) (i : Int) : ∀ (fu : Nat) (l'2 : List Int) (k' : Int), iter fu (LC.F tab (law_HangLasts_phi nf) (fun _ F => iter nf F) law_HangLasts_keep 2 (law_HangLasts_L2 nf G0)) (law_HangLasts_m2 next r i l'2 k') = law_HangLasts_l2 nf next r i (fun l' i => G0 (law_HangLasts_m0 next r l' i)) fu l'2 k' := by
  intro fu
  induction fu with
  | zero => intros; rfl
  | succ fu ih =>
    intro l'2 k'
    rw [law_HangLasts_h2 nf G0 next r i fu l'2 k']
    simp only [ih]
    rfl
theorem law_HangLasts_h0 (nf : Nat)  (next : List (List Int)) (r : List Int × Int × Unit) (fu : Nat) (l' : List Int) (i : Int) : iter (fu + 1) (LC.F tab (law_HangLasts_phi nf) (fun _ F => iter nf F) law_HangLasts_keep 0 (law_HangLasts_L0 nf )) (law_HangLasts_m0 next r l' i) = law_HangLasts_b0 nf (fun _ _ p2 v0 v1 => iter nf (LC.F tab (law_HangLasts_phi nf) (fun _ F => iter nf F) law_HangLasts_keep 2 (law_HangLasts_L2 nf (iter fu (LC.F tab (law_HangLasts_phi nf) (fun _ F => iter nf F) law_HangLasts_keep 0 (law_HangLasts_L0 nf ))))) (law_HangLasts_m2 next r p2 v0 v1)) next r  (fun l' i => iter fu (LC.F tab (law_HangLasts_phi nf) (fun _ F => iter nf F) law_HangLasts_keep 0 (law_HangLasts_L0 nf )) (law_HangLasts_m0 next r l' i)) l' i := by kernel_rfl
theorem law_HangLasts_e0 (nf : Nat)  (next : List (List Int)) (r : List Int × Int × Unit) : ∀ (fu : Nat) (l' : List Int) (i : Int), iter fu (LC.F tab (law_HangLasts_phi nf) (fun _ F => iter nf F) law_HangLasts_keep 0 (law_HangLasts_L0 nf )) (law_HangLasts_m0 next r l' i) = law_HangLasts_l0 nf next r  fu l' i := by
  intro fu
  induction fu with
  | zero => intros; rfl
  | succ fu ih =>
    intro l' i
    rw [law_HangLasts_h0 nf  next r fu l' i]
    simp only [ih, law_HangLasts_e2]
    rfl
theorem law_HangLasts_eq (nf : Nat) (next : List (List Int)) : runF tab (law_HangLasts_phi nf) law_HangLasts_keep nf [PT.val (Ty.int IntKind.i64).sl.sl (Md.bor true false)] [(Ty.bool, Md.bor false true)] Try.f16.results.toList (codeOf Try.f16) ⟨next, ()⟩ = law_HangLasts_f nf next := by
  have h : runF tab (law_HangLasts_phi nf) law_HangLasts_keep nf [PT.val (Ty.int IntKind.i64).sl.sl (Md.bor true false)] [(Ty.bool, Md.bor false true)] Try.f16.results.toList (codeOf Try.f16) ⟨next, ()⟩ = law_HangLasts_p nf (fun p0 p1 v0 v1 => iter nf (LC.F tab (law_HangLasts_phi nf) (fun _ F => iter nf F) law_HangLasts_keep 0 (law_HangLasts_L0 nf)) (law_HangLasts_m0 p0 p1 v0 v1)) next := by kernel_rfl
  rw [h]
  simp only [law_HangLasts_e0]
  rfl
def law_HangLasts_F (nf : Nat) (x : denPs [.val (.sl (.sl (.int .i64))) (.bor true false)]) : Option (denL [(.bool, .bor false true)]) := law_HangLasts_f nf x.1
def law_HangLasts_C (nf : Nat) : Contract := ⟨[.val (.sl (.sl (.int .i64))) (.bor true false)], [(.bool, .bor false true)], law_HangLasts_F nf⟩
theorem law_HangLasts_ok : FnOK Try.prog 16 := ⟨Try.f16, codeOf Try.f16, Try.func16, by kernel_rfl, by kernel_rfl⟩
theorem law_HangLasts_holds (nf : Nat) : Contract.Holds Try.prog 16 (law_HangLasts_C nf) :=
  fn_holds (Φ := law_HangLasts_phi nf) (keep := law_HangLasts_keep) (n := nf) ⟨tabs.1, tabs.2, (ctx_cons ref_WayCheck_ok (ref_WayCheck_holds nf) (ctx_cons ref_Bit_ok (ref_Bit_holds nf) (ctx_cons ref_Fits_ok (ref_Fits_holds nf) (ctx_cons hang_Last_ok (hang_Last_holds nf) (ctx_cons ref_Sure_ok (ref_Sure_holds nf) ctx_nil))))), mixed⟩ (fn := Try.f16) ⟨Try.func16, by kernel_rfl, by kernel_rfl, by kernel_rfl⟩ (fun x => law_HangLasts_eq nf x.1)

/-! codemason hang.On -/
def hang_On_phi (nf : Nat) : Nat → Option Contract := lookC [(20, way_Check_C nf), (69, hang_last_C nf)]
def hang_On_keep : Nat → List Nat := lookK [(2, [0, 5, 6, 7, 8, 17, 20, 21, 22, 23, 26, 27, 28, 29, 30]), (0, [0, 5, 6, 17, 20, 21, 22, 23])]
def hang_On_b0 (nf : Nat) (l2 : List (List Int) → Int → List Int → List Int → Int → Option (List Int × Int × Unit)) (next : List (List Int)) (g0 : List Int → List Int → Int → Option (List Int × Int × Unit)) (l' : List Int) (out : List Int) (t23 : Int) : Option (List Int × Int × Unit) :=
  bif decide (t23 < (↑next.length : Int)) then
    bif inb t23 next.length then
      l2 next t23 l' out 0
    else
      none
  else
    some ((out, 0, ()))
def hang_On_b2 (nf : Nat) (next : List (List Int)) (t23 : Int) (g0 : List Int → List Int → Int → Option (List Int × Int × Unit)) (g2 : List Int → List Int → Int → Option (List Int × Int × Unit)) (l'2 : List Int) (out2 : List Int) (t30 : Int) : Option (List Int × Int × Unit) :=
  bif decide (t30 < (↑(List.length (next.getD t23.toNat [])) : Int)) then
    bif inb t30 (List.length (next.getD t23.toNat [])) then
      bif inb t23 out2.length then
        bif inb (List.getD (next.getD t23.toNat []) t30.toNat 0) l'2.length then
          bif inb t23 l'2.length then
            bif decide (0 ≤ t23) then
              bif inb t23 out2.length then
                g2 l'2 (out2.set t23.toNat (IntKind.u32.wrap (↑(BitVec.ofInt IntKind.u32.bits (out2.getD t23.toNat 0) ||| BitVec.ofInt IntKind.u32.bits (IntKind.u32.wrap (↑(BitVec.ofInt IntKind.u32.bits (l'2.getD (Int.toNat (List.getD (next.getD t23.toNat []) t30.toNat 0)) 0) &&& ~~~BitVec.ofInt IntKind.u32.bits (IntKind.u32.wrap (↑(BitVec.ofInt IntKind.u32.bits (l'2.getD t23.toNat 0) &&& ~~~BitVec.ofInt IntKind.u32.bits (shlI IntKind.u32 1 t23)).toNat : Int))).toNat : Int))).toNat : Int))) (IntKind.i64.wrap (t30 + 1))
              else
                none
            else
              none
          else
            none
        else
          none
      else
        none
    else
      none
  else
    g0 l'2 out2 (IntKind.i64.wrap (t23 + 1))
def hang_On_p (nf : Nat) (l0 : List (List Int) → List Int → List Int → Int → Option (List Int × Int × Unit)) (next : List (List Int)) : Option (List Int × Int × Unit) :=
  Option.bind (way_Check_f nf next) fun r =>
  bif r.fst != 0 then
    some (([], r.fst, ()))
  else
    Option.bind (hang_last_f nf next) fun r2 =>
    bif decide (0 ≤ (↑next.length : Int)) && decide ((↑next.length : Int) ≤ (↑next.length : Int)) && decide ((↑next.length : Int) ≤ (↑lim : Int)) then
      l0 next r2.fst (List.replicate (↑next.length : Int).toNat 0) 0
    else
      none
def hang_On_l2 (nf : Nat) (next : List (List Int)) (t23 : Int) (g0 : List Int → List Int → Int → Option (List Int × Int × Unit)) : Nat → List Int → List Int → Int → Option (List Int × Int × Unit)
  | 0, _, _, _ => none
  | fu + 1, l'2, out2, t30 => hang_On_b2 nf  next t23 g0 (hang_On_l2 nf next t23 g0 fu) l'2 out2 t30
def hang_On_l0 (nf : Nat) (next : List (List Int)) : Nat → List Int → List Int → Int → Option (List Int × Int × Unit)
  | 0, _, _, _ => none
  | fu + 1, l', out, t23 => hang_On_b0 nf (fun _ p1 v0 v1 v2 => hang_On_l2 nf next p1 (fun l' out t23 => hang_On_l0 nf next  fu l' out t23) nf v0 v1 v2) next  (hang_On_l0 nf next  fu) l' out t23
def hang_On_f (nf : Nat) (next : List (List Int)) : Option (List Int × Int × Unit) := hang_On_p nf (fun p0 v0 v1 v2 => hang_On_l0 nf p0 nf v0 v1 v2) next
noncomputable def hang_On_L0 (nf : Nat) : LC (List Int × Int × Unit) := theL (findL tab (hang_On_phi nf) (fun _ F => iter nf F) hang_On_keep 0 0 (codeOf Try.f49) (fin [((Ty.int IntKind.u32).sl, Md.own false (Md.bor false false)), (Ty.int IntKind.i64, Md.bor false true)] Try.f49.results.toList) (fun _ _ => none) (fin [((Ty.int IntKind.u32).sl, Md.own false (Md.bor false false)), (Ty.int IntKind.i64, Md.bor false true)] Try.f49.results.toList))
def hang_On_m0 (next : List (List Int)) (l' : List Int) (out : List Int) (t23 : Int) : St := ⟨fresh, [(0, AV.v (Ty.int IntKind.i64).sl.sl (Md.bor true false) next), (5, AV.ow 500005 (Ty.int IntKind.u32).sl (Md.own false (Md.bor false false)) l'), (6, AV.ow 500006 (Ty.int IntKind.u32).sl (Md.own false (Md.bor false false)) out), (17, AV.dead), (20, AV.dead), (21, AV.v (Ty.int IntKind.i64).sl.sl (Md.bor true false) next), (22, AV.v (Ty.int IntKind.i64) (Md.bor false true) (↑next.length : Int)), (23, AV.v (Ty.int IntKind.i64) (Md.bor false true) t23)]⟩
noncomputable def hang_On_L2 (nf : Nat) (G0 : St → Option (List Int × Int × Unit)) : LC (List Int × Int × Unit) := theL (findL tab (hang_On_phi nf) (fun _ F => iter nf F) hang_On_keep 2 0 (hang_On_L0 nf ).c (fun st => norm (hang_On_keep 0) st G0) (hang_On_L0 nf ).Kx (hang_On_L0 nf ).Kr)
def hang_On_m2 (next : List (List Int)) (t23 : Int) (l'2 : List Int) (out2 : List Int) (t30 : Int) : St := ⟨fresh, [(0, AV.v (Ty.int IntKind.i64).sl.sl (Md.bor true false) next), (5, AV.ow 500005 (Ty.int IntKind.u32).sl (Md.own false (Md.bor false false)) l'2), (6, AV.ow 500006 (Ty.int IntKind.u32).sl (Md.own false (Md.bor false false)) out2), (7, AV.v (Ty.int IntKind.i64) (Md.bor false true) t23), (8, AV.v (Ty.int IntKind.i64).sl (Md.bor true false) (next.getD t23.toNat [])), (17, AV.dead), (20, AV.dead), (21, AV.v (Ty.int IntKind.i64).sl.sl (Md.bor true false) next), (22, AV.v (Ty.int IntKind.i64) (Md.bor false true) (↑next.length : Int)), (23, AV.v (Ty.int IntKind.i64) (Md.bor false true) t23), (26, AV.rop (Ty.int IntKind.i64).sl (Md.bor true false) (next.getD t23.toNat [])), (27, AV.v (Ty.int IntKind.i64).sl (Md.bor true false) (next.getD t23.toNat [])), (28, AV.v (Ty.int IntKind.i64).sl (Md.bor true false) (next.getD t23.toNat [])), (29, AV.v (Ty.int IntKind.i64) (Md.bor false true) (↑(List.length (next.getD t23.toNat [])) : Int)), (30, AV.v (Ty.int IntKind.i64) (Md.bor false true) t30)]⟩
theorem hang_On_h2 (nf : Nat) (G0 : St → Option (List Int × Int × Unit)) (next : List (List Int)) (t23 : Int) (fu : Nat) (l'2 : List Int) (out2 : List Int) (t30 : Int) : iter (fu + 1) (LC.F tab (hang_On_phi nf) (fun _ F => iter nf F) hang_On_keep 2 (hang_On_L2 nf G0)) (hang_On_m2 next t23 l'2 out2 t30) = hang_On_b2 nf  next t23 (fun l' out t23 => G0 (hang_On_m0 next l' out t23)) (fun l'2 out2 t30 => iter fu (LC.F tab (hang_On_phi nf) (fun _ F => iter nf F) hang_On_keep 2 (hang_On_L2 nf G0)) (hang_On_m2 next t23 l'2 out2 t30)) l'2 out2 t30 := by kernel_rfl
theorem hang_On_e2 (nf : Nat) (G0 : St → Option (List Int × Int × Unit)) (next : List (List Int)) (t23 : Int) : ∀ (fu : Nat) (l'2 : List Int) (out2 : List Int) (t30 : Int), iter fu (LC.F tab (hang_On_phi nf) (fun _ F => iter nf F) hang_On_keep 2 (hang_On_L2 nf G0)) (hang_On_m2 next t23 l'2 out2 t30) = hang_On_l2 nf next t23 (fun l' out t23 => G0 (hang_On_m0 next l' out t23)) fu l'2 out2 t30 := by
  intro fu
  induction fu with
  | zero => intros; rfl
  | succ fu ih =>
    intro l'2 out2 t30
    rw [hang_On_h2 nf G0 next t23 fu l'2 out2 t30]
    simp only [ih]
    rfl
theorem hang_On_h0 (nf : Nat)  (next : List (List Int)) (fu : Nat) (l' : List Int) (out : List Int) (t23 : Int) : iter (fu + 1) (LC.F tab (hang_On_phi nf) (fun _ F => iter nf F) hang_On_keep 0 (hang_On_L0 nf )) (hang_On_m0 next l' out t23) = hang_On_b0 nf (fun _ p1 v0 v1 v2 => iter nf (LC.F tab (hang_On_phi nf) (fun _ F => iter nf F) hang_On_keep 2 (hang_On_L2 nf (iter fu (LC.F tab (hang_On_phi nf) (fun _ F => iter nf F) hang_On_keep 0 (hang_On_L0 nf ))))) (hang_On_m2 next p1 v0 v1 v2)) next  (fun l' out t23 => iter fu (LC.F tab (hang_On_phi nf) (fun _ F => iter nf F) hang_On_keep 0 (hang_On_L0 nf )) (hang_On_m0 next l' out t23)) l' out t23 := by kernel_rfl
theorem hang_On_e0 (nf : Nat)  (next : List (List Int)) : ∀ (fu : Nat) (l' : List Int) (out : List Int) (t23 : Int), iter fu (LC.F tab (hang_On_phi nf) (fun _ F => iter nf F) hang_On_keep 0 (hang_On_L0 nf )) (hang_On_m0 next l' out t23) = hang_On_l0 nf next  fu l' out t23 := by
  intro fu
  induction fu with
  | zero => intros; rfl
  | succ fu ih =>
    intro l' out t23
    rw [hang_On_h0 nf  next fu l' out t23]
    simp only [ih, hang_On_e2]
    rfl
theorem hang_On_eq (nf : Nat) (next : List (List Int)) : runF tab (hang_On_phi nf) hang_On_keep nf [PT.val (Ty.int IntKind.i64).sl.sl (Md.bor true false)] [((Ty.int IntKind.u32).sl, Md.own false (Md.bor false false)), (Ty.int IntKind.i64, Md.bor false true)] Try.f49.results.toList (codeOf Try.f49) ⟨next, ()⟩ = hang_On_f nf next := by
  have h : runF tab (hang_On_phi nf) hang_On_keep nf [PT.val (Ty.int IntKind.i64).sl.sl (Md.bor true false)] [((Ty.int IntKind.u32).sl, Md.own false (Md.bor false false)), (Ty.int IntKind.i64, Md.bor false true)] Try.f49.results.toList (codeOf Try.f49) ⟨next, ()⟩ = hang_On_p nf (fun p0 v0 v1 v2 => iter nf (LC.F tab (hang_On_phi nf) (fun _ F => iter nf F) hang_On_keep 0 (hang_On_L0 nf)) (hang_On_m0 p0 v0 v1 v2)) next := by kernel_rfl
  rw [h]
  simp only [hang_On_e0]
  rfl
def hang_On_F (nf : Nat) (x : denPs [.val (.sl (.sl (.int .i64))) (.bor true false)]) : Option (denL [(.sl (.int .u32), .own false (.bor false false)), (.int .i64, .bor false true)]) := hang_On_f nf x.1
def hang_On_C (nf : Nat) : Contract := ⟨[.val (.sl (.sl (.int .i64))) (.bor true false)], [(.sl (.int .u32), .own false (.bor false false)), (.int .i64, .bor false true)], hang_On_F nf⟩
theorem hang_On_ok : FnOK Try.prog 49 := ⟨Try.f49, codeOf Try.f49, Try.func49, by kernel_rfl, by kernel_rfl⟩
theorem hang_On_holds (nf : Nat) : Contract.Holds Try.prog 49 (hang_On_C nf) :=
  fn_holds (Φ := hang_On_phi nf) (keep := hang_On_keep) (n := nf) ⟨tabs.1, tabs.2, (ctx_cons way_Check_ok (way_Check_holds nf) (ctx_cons hang_last_ok (hang_last_holds nf) ctx_nil)), mixed⟩ (fn := Try.f49) ⟨Try.func49, by kernel_rfl, by kernel_rfl, by kernel_rfl⟩ (fun x => hang_On_eq nf x.1)

/-! codemason codemasonref.Hangs -/
def ref_Hangs_phi (nf : Nat) : Nat → Option Contract := lookC [(48, ref_Sure_C nf)]
def ref_Hangs_keep : Nat → List Nat := lookK [(0, [0, 1, 2, 9, 11, 12, 13, 14])]
def ref_Hangs_b0 (nf : Nat) (next : List (List Int)) (i : Int) (k' : Int) (g0 : Int → Option (Bool × Unit)) (t14 : Int) : Option (Bool × Unit) :=
  bif decide (t14 < (↑(List.length (next.getD i.toNat [])) : Int)) then
    bif inb t14 (List.length (next.getD i.toNat [])) then
      Option.bind (ref_Sure_f nf next (List.getD (next.getD i.toNat []) t14.toNat 0) k') fun r =>
      bif r.fst then
        bif i == k' then
          some ((true, ()))
        else
          Option.bind (ref_Sure_f nf next i k') fun r2 =>
          bif !r2.fst then
            some ((true, ()))
          else
            g0 (IntKind.i64.wrap (t14 + 1))
      else
        g0 (IntKind.i64.wrap (t14 + 1))
    else
      none
  else
    some ((false, ()))
def ref_Hangs_p (nf : Nat) (l0 : List (List Int) → Int → Int → Int → Option (Bool × Unit)) (next : List (List Int)) (i : Int) (k' : Int) : Option (Bool × Unit) :=
  bif inb i next.length then
    l0 next i k' 0
  else
    none
def ref_Hangs_l0 (nf : Nat) (next : List (List Int)) (i : Int) (k' : Int) : Nat → Int → Option (Bool × Unit)
  | 0, _ => none
  | fu + 1, t14 => ref_Hangs_b0 nf  next i k'  (ref_Hangs_l0 nf next i k'  fu) t14
def ref_Hangs_f (nf : Nat) (next : List (List Int)) (i : Int) (k' : Int) : Option (Bool × Unit) := ref_Hangs_p nf (fun p0 p1 p2 v0 => ref_Hangs_l0 nf p0 p1 p2 nf v0) next i k'
noncomputable def ref_Hangs_L0 (nf : Nat) : LC (Bool × Unit) := theL (findL tab (ref_Hangs_phi nf) (fun _ F => iter nf F) ref_Hangs_keep 0 0 (codeOf Try.f50) (fin [(Ty.bool, Md.bor false true)] Try.f50.results.toList) (fun _ _ => none) (fin [(Ty.bool, Md.bor false true)] Try.f50.results.toList))
def ref_Hangs_m0 (next : List (List Int)) (i : Int) (k' : Int) (t14 : Int) : St := ⟨fresh, [(0, AV.v (Ty.int IntKind.i64).sl.sl (Md.bor true false) next), (1, AV.v (Ty.int IntKind.i64) (Md.bor false true) i), (2, AV.v (Ty.int IntKind.i64) (Md.bor false true) k'), (9, AV.v (Ty.int IntKind.i64).sl.sl (Md.bor true false) next), (11, AV.rop (Ty.int IntKind.i64).sl (Md.bor true false) (next.getD i.toNat [])), (12, AV.v (Ty.int IntKind.i64).sl (Md.bor true false) (next.getD i.toNat [])), (13, AV.v (Ty.int IntKind.i64) (Md.bor false true) (↑(List.length (next.getD i.toNat [])) : Int)), (14, AV.v (Ty.int IntKind.i64) (Md.bor false true) t14)]⟩
theorem ref_Hangs_h0 (nf : Nat)  (next : List (List Int)) (i : Int) (k' : Int) (fu : Nat) (t14 : Int) : iter (fu + 1) (LC.F tab (ref_Hangs_phi nf) (fun _ F => iter nf F) ref_Hangs_keep 0 (ref_Hangs_L0 nf )) (ref_Hangs_m0 next i k' t14) = ref_Hangs_b0 nf  next i k'  (fun t14 => iter fu (LC.F tab (ref_Hangs_phi nf) (fun _ F => iter nf F) ref_Hangs_keep 0 (ref_Hangs_L0 nf )) (ref_Hangs_m0 next i k' t14)) t14 := by kernel_rfl
theorem ref_Hangs_e0 (nf : Nat)  (next : List (List Int)) (i : Int) (k' : Int) : ∀ (fu : Nat) (t14 : Int), iter fu (LC.F tab (ref_Hangs_phi nf) (fun _ F => iter nf F) ref_Hangs_keep 0 (ref_Hangs_L0 nf )) (ref_Hangs_m0 next i k' t14) = ref_Hangs_l0 nf next i k'  fu t14 := by
  intro fu
  induction fu with
  | zero => intros; rfl
  | succ fu ih =>
    intro t14
    rw [ref_Hangs_h0 nf  next i k' fu t14]
    simp only [ih]
    rfl
theorem ref_Hangs_eq (nf : Nat) (next : List (List Int)) (i : Int) (k' : Int) : runF tab (ref_Hangs_phi nf) ref_Hangs_keep nf [PT.val (Ty.int IntKind.i64).sl.sl (Md.bor true false), PT.val (Ty.int IntKind.i64) (Md.bor true false), PT.val (Ty.int IntKind.i64) (Md.bor true false)] [(Ty.bool, Md.bor false true)] Try.f50.results.toList (codeOf Try.f50) ⟨next, i, k', ()⟩ = ref_Hangs_f nf next i k' := by
  have h : runF tab (ref_Hangs_phi nf) ref_Hangs_keep nf [PT.val (Ty.int IntKind.i64).sl.sl (Md.bor true false), PT.val (Ty.int IntKind.i64) (Md.bor true false), PT.val (Ty.int IntKind.i64) (Md.bor true false)] [(Ty.bool, Md.bor false true)] Try.f50.results.toList (codeOf Try.f50) ⟨next, i, k', ()⟩ = ref_Hangs_p nf (fun p0 p1 p2 v0 => iter nf (LC.F tab (ref_Hangs_phi nf) (fun _ F => iter nf F) ref_Hangs_keep 0 (ref_Hangs_L0 nf)) (ref_Hangs_m0 p0 p1 p2 v0)) next i k' := by kernel_rfl
  rw [h]
  simp only [ref_Hangs_e0]
  rfl
def ref_Hangs_F (nf : Nat) (x : denPs [.val (.sl (.sl (.int .i64))) (.bor true false), .val (.int .i64) (.bor true false), .val (.int .i64) (.bor true false)]) : Option (denL [(.bool, .bor false true)]) := ref_Hangs_f nf x.1 x.2.1 x.2.2.1
def ref_Hangs_C (nf : Nat) : Contract := ⟨[.val (.sl (.sl (.int .i64))) (.bor true false), .val (.int .i64) (.bor true false), .val (.int .i64) (.bor true false)], [(.bool, .bor false true)], ref_Hangs_F nf⟩
theorem ref_Hangs_ok : FnOK Try.prog 50 := ⟨Try.f50, codeOf Try.f50, Try.func50, by kernel_rfl, by kernel_rfl⟩
theorem ref_Hangs_holds (nf : Nat) : Contract.Holds Try.prog 50 (ref_Hangs_C nf) :=
  fn_holds (Φ := ref_Hangs_phi nf) (keep := ref_Hangs_keep) (n := nf) ⟨tabs.1, tabs.2, (ctx_cons ref_Sure_ok (ref_Sure_holds nf) ctx_nil), mixed⟩ (fn := Try.f50) ⟨Try.func50, by kernel_rfl, by kernel_rfl, by kernel_rfl⟩ (fun x => ref_Hangs_eq nf x.1 x.2.1 x.2.2.1)

/-! codemason codemasonlaw.HangTells -/
def law_HangTells_phi (nf : Nat) : Nat → Option Contract := lookC [(21, ref_WayCheck_C nf), (29, ref_Bit_C nf), (30, ref_Fits_C nf), (49, hang_On_C nf), (50, ref_Hangs_C nf)]
def law_HangTells_keep : Nat → List Nat := lookK [(2, [0, 3, 4, 6, 7, 8, 10, 11]), (0, [0, 3, 4, 6, 8, 10, 11])]
def law_HangTells_b0 (nf : Nat) (l2 : List (List Int) → List Int × Int × Unit → Int → List Int → Int → Option (Bool × Unit)) (next : List (List Int)) (r : List Int × Int × Unit) (g0 : List Int → Int → Option (Bool × Unit)) (l' : List Int) (i : Int) : Option (Bool × Unit) :=
  bif decide (i < (↑l'.length : Int)) then
    bif decide (i < (↑next.length : Int)) then
      l2 next r i l' 0
    else
      bif r.snd.fst == 0 then
        some (((↑l'.length : Int) == (↑next.length : Int), ()))
      else
        some ((false, ()))
  else
    bif r.snd.fst == 0 then
      some (((↑l'.length : Int) == (↑next.length : Int), ()))
    else
      some ((false, ()))
def law_HangTells_b2 (nf : Nat) (next : List (List Int)) (r : List Int × Int × Unit) (i : Int) (g0 : List Int → Int → Option (Bool × Unit)) (g2 : List Int → Int → Option (Bool × Unit)) (l'2 : List Int) (k' : Int) : Option (Bool × Unit) :=
  bif decide (k' < (↑next.length : Int)) then
    bif inb i l'2.length then
      Option.bind (ref_Bit_f nf (l'2.getD i.toNat 0) k') fun r3 =>
      Option.bind (ref_Hangs_f nf next i k') fun r4 =>
      bif r3.fst != r4.fst then
        some ((false, ()))
      else
        g2 l'2 (IntKind.i64.wrap (k' + 1))
    else
      none
  else
    bif inb i l'2.length then
      Option.bind (ref_Fits_f nf ((↑next.length : Int)) (l'2.getD i.toNat 0)) fun r5 =>
      bif !r5.fst then
        some ((false, ()))
      else
        g0 l'2 (IntKind.i64.wrap (i + 1))
    else
      none
def law_HangTells_p (nf : Nat) (l0 : List (List Int) → List Int × Int × Unit → List Int → Int → Option (Bool × Unit)) (next : List (List Int)) : Option (Bool × Unit) :=
  Option.bind (hang_On_f nf next) fun r =>
  Option.bind (ref_WayCheck_f nf next) fun r2 =>
  bif r2.fst != 0 then
    bif r.snd.fst == r2.fst then
      some (((↑(List.length r.fst) : Int) == 0, ()))
    else
      some ((false, ()))
  else
    l0 next r r.fst 0
def law_HangTells_l2 (nf : Nat) (next : List (List Int)) (r : List Int × Int × Unit) (i : Int) (g0 : List Int → Int → Option (Bool × Unit)) : Nat → List Int → Int → Option (Bool × Unit)
  | 0, _, _ => none
  | fu + 1, l'2, k' => law_HangTells_b2 nf  next r i g0 (law_HangTells_l2 nf next r i g0 fu) l'2 k'
def law_HangTells_l0 (nf : Nat) (next : List (List Int)) (r : List Int × Int × Unit) : Nat → List Int → Int → Option (Bool × Unit)
  | 0, _, _ => none
  | fu + 1, l', i => law_HangTells_b0 nf (fun _ _ p2 v0 v1 => law_HangTells_l2 nf next r p2 (fun l' i => law_HangTells_l0 nf next r  fu l' i) nf v0 v1) next r  (law_HangTells_l0 nf next r  fu) l' i
def law_HangTells_f (nf : Nat) (next : List (List Int)) : Option (Bool × Unit) := law_HangTells_p nf (fun p0 p1 v0 v1 => law_HangTells_l0 nf p0 p1 nf v0 v1) next
noncomputable def law_HangTells_L0 (nf : Nat) : LC (Bool × Unit) := theL (findL tab (law_HangTells_phi nf) (fun _ F => iter nf F) law_HangTells_keep 0 0 (codeOf Try.f17) (fin [(Ty.bool, Md.bor false true)] Try.f17.results.toList) (fun _ _ => none) (fin [(Ty.bool, Md.bor false true)] Try.f17.results.toList))
def law_HangTells_m0 (next : List (List Int)) (r : List Int × Int × Unit) (l' : List Int) (i : Int) : St := ⟨fresh, [(0, AV.v (Ty.int IntKind.i64).sl.sl (Md.bor true false) next), (3, AV.ow 500003 (Ty.int IntKind.u32).sl (Md.own false (Md.bor false false)) l'), (4, AV.v (Ty.int IntKind.i64) (Md.bor false true) r.snd.fst), (6, AV.v (Ty.int IntKind.i64) (Md.bor false true) i), (8, AV.dead), (10, AV.dead), (11, AV.dead)]⟩
noncomputable def law_HangTells_L2 (nf : Nat) (G0 : St → Option (Bool × Unit)) : LC (Bool × Unit) := theL (findL tab (law_HangTells_phi nf) (fun _ F => iter nf F) law_HangTells_keep 2 0 (law_HangTells_L0 nf ).c (fun st => norm (law_HangTells_keep 0) st G0) (law_HangTells_L0 nf ).Kx (law_HangTells_L0 nf ).Kr)
def law_HangTells_m2 (next : List (List Int)) (r : List Int × Int × Unit) (i : Int) (l'2 : List Int) (k' : Int) : St := ⟨fresh, [(0, AV.v (Ty.int IntKind.i64).sl.sl (Md.bor true false) next), (3, AV.ow 500003 (Ty.int IntKind.u32).sl (Md.own false (Md.bor false false)) l'2), (4, AV.v (Ty.int IntKind.i64) (Md.bor false true) r.snd.fst), (6, AV.v (Ty.int IntKind.i64) (Md.bor false true) i), (7, AV.v (Ty.int IntKind.i64) (Md.bor false true) k'), (8, AV.dead), (10, AV.dead), (11, AV.dead)]⟩
theorem law_HangTells_h2 (nf : Nat) (G0 : St → Option (Bool × Unit)) (next : List (List Int)) (r : List Int × Int × Unit) (i : Int) (fu : Nat) (l'2 : List Int) (k' : Int) : iter (fu + 1) (LC.F tab (law_HangTells_phi nf) (fun _ F => iter nf F) law_HangTells_keep 2 (law_HangTells_L2 nf G0)) (law_HangTells_m2 next r i l'2 k') = law_HangTells_b2 nf  next r i (fun l' i => G0 (law_HangTells_m0 next r l' i)) (fun l'2 k' => iter fu (LC.F tab (law_HangTells_phi nf) (fun _ F => iter nf F) law_HangTells_keep 2 (law_HangTells_L2 nf G0)) (law_HangTells_m2 next r i l'2 k')) l'2 k' := by kernel_rfl
theorem law_HangTells_e2 (nf : Nat) (G0 : St → Option (Bool × Unit)) (next : List (List Int)) (r : List Int × Int × Unit) (i : Int) : ∀ (fu : Nat) (l'2 : List Int) (k' : Int), iter fu (LC.F tab (law_HangTells_phi nf) (fun _ F => iter nf F) law_HangTells_keep 2 (law_HangTells_L2 nf G0)) (law_HangTells_m2 next r i l'2 k') = law_HangTells_l2 nf next r i (fun l' i => G0 (law_HangTells_m0 next r l' i)) fu l'2 k' := by
  intro fu
  induction fu with
  | zero => intros; rfl
  | succ fu ih =>
    intro l'2 k'
    rw [law_HangTells_h2 nf G0 next r i fu l'2 k']
    simp only [ih]
    rfl
theorem law_HangTells_h0 (nf : Nat)  (next : List (List Int)) (r : List Int × Int × Unit) (fu : Nat) (l' : List Int) (i : Int) : iter (fu + 1) (LC.F tab (law_HangTells_phi nf) (fun _ F => iter nf F) law_HangTells_keep 0 (law_HangTells_L0 nf )) (law_HangTells_m0 next r l' i) = law_HangTells_b0 nf (fun _ _ p2 v0 v1 => iter nf (LC.F tab (law_HangTells_phi nf) (fun _ F => iter nf F) law_HangTells_keep 2 (law_HangTells_L2 nf (iter fu (LC.F tab (law_HangTells_phi nf) (fun _ F => iter nf F) law_HangTells_keep 0 (law_HangTells_L0 nf ))))) (law_HangTells_m2 next r p2 v0 v1)) next r  (fun l' i => iter fu (LC.F tab (law_HangTells_phi nf) (fun _ F => iter nf F) law_HangTells_keep 0 (law_HangTells_L0 nf )) (law_HangTells_m0 next r l' i)) l' i := by kernel_rfl
theorem law_HangTells_e0 (nf : Nat)  (next : List (List Int)) (r : List Int × Int × Unit) : ∀ (fu : Nat) (l' : List Int) (i : Int), iter fu (LC.F tab (law_HangTells_phi nf) (fun _ F => iter nf F) law_HangTells_keep 0 (law_HangTells_L0 nf )) (law_HangTells_m0 next r l' i) = law_HangTells_l0 nf next r  fu l' i := by
  intro fu
  induction fu with
  | zero => intros; rfl
  | succ fu ih =>
    intro l' i
    rw [law_HangTells_h0 nf  next r fu l' i]
    simp only [ih, law_HangTells_e2]
    rfl
theorem law_HangTells_eq (nf : Nat) (next : List (List Int)) : runF tab (law_HangTells_phi nf) law_HangTells_keep nf [PT.val (Ty.int IntKind.i64).sl.sl (Md.bor true false)] [(Ty.bool, Md.bor false true)] Try.f17.results.toList (codeOf Try.f17) ⟨next, ()⟩ = law_HangTells_f nf next := by
  have h : runF tab (law_HangTells_phi nf) law_HangTells_keep nf [PT.val (Ty.int IntKind.i64).sl.sl (Md.bor true false)] [(Ty.bool, Md.bor false true)] Try.f17.results.toList (codeOf Try.f17) ⟨next, ()⟩ = law_HangTells_p nf (fun p0 p1 v0 v1 => iter nf (LC.F tab (law_HangTells_phi nf) (fun _ F => iter nf F) law_HangTells_keep 0 (law_HangTells_L0 nf)) (law_HangTells_m0 p0 p1 v0 v1)) next := by kernel_rfl
  rw [h]
  simp only [law_HangTells_e0]
  rfl
def law_HangTells_F (nf : Nat) (x : denPs [.val (.sl (.sl (.int .i64))) (.bor true false)]) : Option (denL [(.bool, .bor false true)]) := law_HangTells_f nf x.1
def law_HangTells_C (nf : Nat) : Contract := ⟨[.val (.sl (.sl (.int .i64))) (.bor true false)], [(.bool, .bor false true)], law_HangTells_F nf⟩
theorem law_HangTells_ok : FnOK Try.prog 17 := ⟨Try.f17, codeOf Try.f17, Try.func17, by kernel_rfl, by kernel_rfl⟩
theorem law_HangTells_holds (nf : Nat) : Contract.Holds Try.prog 17 (law_HangTells_C nf) :=
  fn_holds (Φ := law_HangTells_phi nf) (keep := law_HangTells_keep) (n := nf) ⟨tabs.1, tabs.2, (ctx_cons ref_WayCheck_ok (ref_WayCheck_holds nf) (ctx_cons ref_Bit_ok (ref_Bit_holds nf) (ctx_cons ref_Fits_ok (ref_Fits_holds nf) (ctx_cons hang_On_ok (hang_On_holds nf) (ctx_cons ref_Hangs_ok (ref_Hangs_holds nf) ctx_nil))))), mixed⟩ (fn := Try.f17) ⟨Try.func17, by kernel_rfl, by kernel_rfl, by kernel_rfl⟩ (fun x => law_HangTells_eq nf x.1)
end Go.Proofs.Ytccbcbhiblohgaa.S
