/- The functions of the code, as plain functions, and the theorems that say so: made by a program of this proof's own. -/
import Derived.Test.YtokjogplnoeicaaAbCheck
import Derived.Test.YtokjogplnoeicaaChecked
namespace Go.Proofs.Ytokjogplnoeicaa.S
open Go Go.Ab
noncomputable section
def bkl : List (Nat × Bk) := [(77, .mk 121 81), (121, .gen 81)]
def tyL : List (Nat × Ty) := [(2, .int .i64), (3, .int .i64), (4, .bool), (5, .int .u8), (6, .int .u8), (7, .pair (.int .i64) (.pair (.int .i64) (.pair (.bool) (.pair (.int .u8) (.unit))))), (8, .pair (.int .i64) (.pair (.int .i64) (.pair (.bool) (.pair (.int .u8) (.unit))))), (12, .int .u64), (21, .int .i32), (22, .sl (.pair (.sl (.pair (.int .i64) (.pair (.int .i64) (.pair (.int .i64) (.pair (.int .i64) (.pair (.int .i64) (.unit))))))) (.pair (.int .i64) (.pair (.int .i64) (.pair (.int .i64) (.unit)))))), (23, .int .i64), (26, .sl (.sl (.int .i64))), (31, .sl (.int .i64)), (39, .int .u32), (40, .sl (.int .u32)), (46, .pair (.int .i64) (.pair (.int .i64) (.unit))), (47, .pair (.int .i64) (.pair (.int .i64) (.unit))), (58, .sl (.pair (.int .i64) (.pair (.int .i64) (.unit)))), (59, .sl (.sl (.pair (.int .i64) (.pair (.int .i64) (.unit))))), (62, .pair (.int .i64) (.pair (.int .i64) (.unit))), (63, .pair (.int .i64) (.pair (.int .i64) (.unit))), (81, .sl (.pair (.int .i64) (.pair (.int .i64) (.pair (.int .i64) (.pair (.int .i64) (.pair (.int .i64) (.unit))))))), (82, .pair (.sl (.pair (.int .i64) (.pair (.int .i64) (.pair (.int .i64) (.pair (.int .i64) (.pair (.int .i64) (.unit))))))) (.pair (.int .i64) (.pair (.int .i64) (.pair (.int .i64) (.unit))))), (83, .pair (.sl (.pair (.int .i64) (.pair (.int .i64) (.pair (.int .i64) (.pair (.int .i64) (.pair (.int .i64) (.unit))))))) (.pair (.int .i64) (.pair (.int .i64) (.pair (.int .i64) (.unit))))), (86, .sl (.sl (.bool))), (91, .sl (.bool)), (92, .sl (.int .u8)), (97, .pair (.int .i64) (.pair (.int .i64) (.pair (.int .i64) (.pair (.int .i64) (.pair (.int .i64) (.unit)))))), (98, .pair (.int .i64) (.pair (.int .i64) (.pair (.int .i64) (.pair (.int .i64) (.pair (.int .i64) (.unit)))))), (105, .int .u64), (106, .sl (.pair (.int .i64) (.pair (.int .i64) (.unit)))), (126, .pair (.sl (.sl (.pair (.int .i64) (.pair (.int .i64) (.unit))))) (.pair (.bool) (.unit))), (127, .pair (.sl (.sl (.pair (.int .i64) (.pair (.int .i64) (.unit))))) (.pair (.bool) (.unit))), (139, .pair (.sl (.pair (.sl (.pair (.int .i64) (.pair (.int .i64) (.pair (.int .i64) (.pair (.int .i64) (.pair (.int .i64) (.unit))))))) (.pair (.int .i64) (.pair (.int .i64) (.pair (.int .i64) (.unit)))))) (.unit)), (140, .pair (.sl (.pair (.sl (.pair (.int .i64) (.pair (.int .i64) (.pair (.int .i64) (.pair (.int .i64) (.pair (.int .i64) (.unit))))))) (.pair (.int .i64) (.pair (.int .i64) (.pair (.int .i64) (.unit)))))) (.unit)), (145, .pair (.sl (.pair (.sl (.pair (.int .i64) (.pair (.int .i64) (.pair (.int .i64) (.pair (.int .i64) (.pair (.int .i64) (.unit))))))) (.pair (.int .i64) (.pair (.int .i64) (.pair (.int .i64) (.unit)))))) (.pair (.sl (.sl (.int .i64))) (.pair (.int .u32) (.pair (.sl (.sl (.bool))) (.pair (.int .u32) (.pair (.sl (.int .u32)) (.unit))))))), (146, .pair (.sl (.pair (.sl (.pair (.int .i64) (.pair (.int .i64) (.pair (.int .i64) (.pair (.int .i64) (.pair (.int .i64) (.unit))))))) (.pair (.int .i64) (.pair (.int .i64) (.pair (.int .i64) (.unit)))))) (.pair (.sl (.sl (.int .i64))) (.pair (.int .u32) (.pair (.sl (.sl (.bool))) (.pair (.int .u32) (.pair (.sl (.int .u32)) (.unit))))))), (155, .mp (.int .i64) (.int .i64)), (189, .int .u8), (190, .int .u8), (193, .int .i32), (194, .int .i32)]
def mdL : List (Nat × Md) := [(2, .bor false true), (3, .bor false true), (4, .bor false true), (5, .bor false true), (6, .bor false true), (7, .bor false true), (8, .bor false true), (12, .bor false true), (21, .bor false true), (22, .own false (.bor false false)), (23, .bor false true), (26, .own false (.bor false false)), (31, .own false (.bor false false)), (39, .bor false true), (40, .own false (.bor false false)), (46, .bor false true), (47, .bor false true), (58, .own false (.bor false false)), (59, .own false (.bor false false)), (62, .bor false true), (63, .bor false true), (81, .own false (.bor false false)), (82, .bor true false), (83, .bor true false), (86, .own false (.bor false false)), (91, .own false (.bor false false)), (92, .own false (.bor false false)), (97, .bor false true), (98, .bor false true), (105, .bor false true), (106, .own false (.bor false false)), (126, .bor true false), (127, .pair (.own false (.own true (.bor false false))) (.pair (.bor false true) (.bor false false))), (139, .bor true false), (140, .pair (.own false (.pair (.own true (.bor false true)) (.bor false true))) (.bor false false)), (145, .bor true false), (146, .pair (.bor false false) (.pair (.bor false false) (.pair (.bor false true) (.pair (.own false (.own false (.bor false true))) (.pair (.bor false true) (.pair (.own false (.bor false false)) (.bor false false))))))), (155, .own false (.bor false false)), (189, .bor false true), (190, .bor false true), (193, .bor false true), (194, .bor false true)]
def tab : Tab := ⟨lookT tyL, lookM mdL, hasT [185], hasT [9, 10, 11], fun _ => none, lookB bkl⟩
theorem bkls : BkL Try.prog bkl := by
  intro x hx
  simp only [bkl, List.mem_cons, List.not_mem_nil, or_false] at hx
  rcases hx with rfl | rfl
  · exact ⟨⟨Try.f77, codeOf Try.f77, Try.func77, by kernel_rfl, by kernel_rfl⟩, Try.f77, 112, 111, Try.func77, by kernel_rfl, by kernel_rfl, by kernel_rfl⟩
  · exact ⟨⟨Try.f121, codeOf Try.f121, Try.func121, by kernel_rfl, by kernel_rfl⟩, Try.f121, 3, 98, 4, 160, Try.func121, by kernel_rfl, by kernel_rfl, by kernel_rfl, by kernel_rfl⟩
theorem tabs : TabOK Try.prog tab ∧ EqOK Try.prog tab := tab_ok (by kernel_rfl) (by kernel_rfl)
theorem mixed : Try.prog.follows .mixedOrders = true := by kernel_rfl
abbrev tI5fn1 : Ty := ((Ty.int IntKind.i64).pair ((Ty.int IntKind.i64).pair ((Ty.int IntKind.i64).pair ((Ty.int IntKind.i64).pair ((Ty.int IntKind.i64).pair Ty.unit)))))
abbrev tI2fn1 : Ty := ((Ty.int IntKind.i64).pair ((Ty.int IntKind.i64).pair Ty.unit))
abbrev tI3fn1 : Ty := (.pair (.int .i64) (.pair (.int .i64) (.pair (.int .i64) (.unit))))
abbrev TBlfn1 : Type := List (List (Int × Int × Int × Int × Int × Unit) × Int × Int × Int × Unit)
abbrev TStfn1 : Type := List (Int × Int × Int × Int × Int × Unit)

/-! codemason codemasonref.Progs -/
def ref_Progs_phi (nf : Nat) : Nat → Option Contract := lookC []
def ref_Progs_keep : Nat → List Nat := lookK [(2, [0, 1, 5, 6]), (0, [0, 1, 5])]
def ref_Progs_b0 (nf : Nat) (l2 : TBlfn1 → TBlfn1 → Int → Int → Option (Bool × Unit)) (a : TBlfn1) (b : TBlfn1) (g0 : Int → Option (Bool × Unit)) (i : Int) : Option (Bool × Unit) :=
  bif decide (i < (↑a.length : Int)) then
    bif inb i a.length then
      bif inb i b.length then
        bif (a.getD i.toNat ([], 0, 0, 0, ())).snd.fst != (b.getD i.toNat ([], 0, 0, 0, ())).snd.fst then
          some ((false, ()))
        else
          bif inb i a.length then
            bif inb i b.length then
              bif (a.getD i.toNat ([], 0, 0, 0, ())).snd.snd.fst != (b.getD i.toNat ([], 0, 0, 0, ())).snd.snd.fst then
                some ((false, ()))
              else
                bif inb i a.length then
                  bif inb i b.length then
                    bif (a.getD i.toNat ([], 0, 0, 0, ())).snd.snd.snd.fst != (b.getD i.toNat ([], 0, 0, 0, ())).snd.snd.snd.fst then
                      some ((false, ()))
                    else
                      bif inb i a.length then
                        bif inb i b.length then
                          bif (↑(List.length (a.getD i.toNat ([], 0, 0, 0, ())).fst) : Int) != (↑(List.length (b.getD i.toNat ([], 0, 0, 0, ())).fst) : Int) then
                            some ((false, ()))
                          else
                            l2 a b i 0
                        else
                          none
                      else
                        none
                  else
                    none
                else
                  none
            else
              none
          else
            none
      else
        none
    else
      none
  else
    some ((true, ()))
def ref_Progs_b2 (nf : Nat) (a : TBlfn1) (b : TBlfn1) (i : Int) (g0 : Int → Option (Bool × Unit)) (g2 : Int → Option (Bool × Unit)) (k' : Int) : Option (Bool × Unit) :=
  bif inb i a.length then
    bif decide (k' < (↑(List.length (a.getD i.toNat ([], 0, 0, 0, ())).fst) : Int)) then
      bif inb i a.length then
        bif inb k' (List.length (a.getD i.toNat ([], 0, 0, 0, ())).fst) then
          bif inb i b.length then
            bif inb k' (List.length (b.getD i.toNat ([], 0, 0, 0, ())).fst) then
              bif !((List.getD (a.getD i.toNat ([], 0, 0, 0, ())).fst k'.toNat (0, 0, 0, 0, 0, ())).fst == (List.getD (b.getD i.toNat ([], 0, 0, 0, ())).fst k'.toNat (0, 0, 0, 0, 0, ())).fst && ((List.getD (a.getD i.toNat ([], 0, 0, 0, ())).fst k'.toNat (0, 0, 0, 0, 0, ())).snd.fst == (List.getD (b.getD i.toNat ([], 0, 0, 0, ())).fst k'.toNat (0, 0, 0, 0, 0, ())).snd.fst && ((List.getD (a.getD i.toNat ([], 0, 0, 0, ())).fst k'.toNat (0, 0, 0, 0, 0, ())).snd.snd.fst == (List.getD (b.getD i.toNat ([], 0, 0, 0, ())).fst k'.toNat (0, 0, 0, 0, 0, ())).snd.snd.fst && ((List.getD (a.getD i.toNat ([], 0, 0, 0, ())).fst k'.toNat (0, 0, 0, 0, 0, ())).snd.snd.snd.fst == (List.getD (b.getD i.toNat ([], 0, 0, 0, ())).fst k'.toNat (0, 0, 0, 0, 0, ())).snd.snd.snd.fst && ((List.getD (a.getD i.toNat ([], 0, 0, 0, ())).fst k'.toNat (0, 0, 0, 0, 0, ())).snd.snd.snd.snd.fst == (List.getD (b.getD i.toNat ([], 0, 0, 0, ())).fst k'.toNat (0, 0, 0, 0, 0, ())).snd.snd.snd.snd.fst && true))))) then
                some ((false, ()))
              else
                g2 (IntKind.i64.wrap (k' + 1))
            else
              none
          else
            none
        else
          none
      else
        none
    else
      g0 (IntKind.i64.wrap (i + 1))
  else
    none
def ref_Progs_p (nf : Nat) (l0 : TBlfn1 → TBlfn1 → Int → Option (Bool × Unit)) (a : TBlfn1) (b : TBlfn1) : Option (Bool × Unit) :=
  bif (↑a.length : Int) != (↑b.length : Int) then
    some ((false, ()))
  else
    l0 a b 0
def ref_Progs_l2 (nf : Nat) (a : TBlfn1) (b : TBlfn1) (i : Int) (g0 : Int → Option (Bool × Unit)) : Nat → Int → Option (Bool × Unit)
  | 0, _ => none
  | fu + 1, k' => ref_Progs_b2 nf  a b i g0 (ref_Progs_l2 nf a b i g0 fu) k'
def ref_Progs_l0 (nf : Nat) (a : TBlfn1) (b : TBlfn1) : Nat → Int → Option (Bool × Unit)
  | 0, _ => none
  | fu + 1, i => ref_Progs_b0 nf (fun _ _ p2 v0 => ref_Progs_l2 nf a b p2 (fun i => ref_Progs_l0 nf a b  fu i) nf v0) a b  (ref_Progs_l0 nf a b  fu) i
def ref_Progs_f (nf : Nat) (a : TBlfn1) (b : TBlfn1) : Option (Bool × Unit) := ref_Progs_p nf (fun p0 p1 v0 => ref_Progs_l0 nf p0 p1 nf v0) a b
noncomputable def ref_Progs_L0 (nf : Nat) : LC (Bool × Unit) := theL (findL tab (ref_Progs_phi nf) (fun _ F => iter nf F) ref_Progs_keep 0 0 (codeOf Try.f34) (fin tab [(Ty.bool, Md.bor false true)] (resL ([]) Try.f34)) (fun _ _ => none) (fin tab [(Ty.bool, Md.bor false true)] (resL ([]) Try.f34)))
def ref_Progs_m0 (a : TBlfn1) (b : TBlfn1) (i : Int) : St := ⟨fresh, [(0, AV.v (tI5fn1.sl.pair ((Ty.int IntKind.i64).pair tI2fn1)).sl (Md.bor true false) a), (1, AV.v (tI5fn1.sl.pair ((Ty.int IntKind.i64).pair tI2fn1)).sl (Md.bor true false) b), (5, AV.v (Ty.int IntKind.i64) (Md.bor false true) i)]⟩
noncomputable def ref_Progs_L2 (nf : Nat) (G0 : St → Option (Bool × Unit)) : LC (Bool × Unit) := theL (findL tab (ref_Progs_phi nf) (fun _ F => iter nf F) ref_Progs_keep 2 0 (ref_Progs_L0 nf ).c (fun st => norm (ref_Progs_keep 0) st G0) (ref_Progs_L0 nf ).Kx (ref_Progs_L0 nf ).Kr)
def ref_Progs_m2 (a : TBlfn1) (b : TBlfn1) (i : Int) (k' : Int) : St := ⟨fresh, [(0, AV.v (tI5fn1.sl.pair ((Ty.int IntKind.i64).pair tI2fn1)).sl (Md.bor true false) a), (1, AV.v (tI5fn1.sl.pair ((Ty.int IntKind.i64).pair tI2fn1)).sl (Md.bor true false) b), (5, AV.v (Ty.int IntKind.i64) (Md.bor false true) i), (6, AV.v (Ty.int IntKind.i64) (Md.bor false true) k')]⟩
theorem ref_Progs_h2 (nf : Nat) (G0 : St → Option (Bool × Unit)) (a : TBlfn1) (b : TBlfn1) (i : Int) (fu : Nat) (k' : Int) : iter (fu + 1) (LC.F tab (ref_Progs_phi nf) (fun _ F => iter nf F) ref_Progs_keep 2 (ref_Progs_L2 nf G0)) (ref_Progs_m2 a b i k') = ref_Progs_b2 nf  a b i (fun i => G0 (ref_Progs_m0 a b i)) (fun k' => iter fu (LC.F tab (ref_Progs_phi nf) (fun _ F => iter nf F) ref_Progs_keep 2 (ref_Progs_L2 nf G0)) (ref_Progs_m2 a b i k')) k' := by kernel_rfl
theorem ref_Progs_e2 (nf : Nat) (G0 : St → Option (Bool × Unit)) (a : TBlfn1) (b : TBlfn1) (i : Int) : ∀ (fu : Nat) (k' : Int), iter fu (LC.F tab (ref_Progs_phi nf) (fun _ F => iter nf F) ref_Progs_keep 2 (ref_Progs_L2 nf G0)) (ref_Progs_m2 a b i k') = ref_Progs_l2 nf a b i (fun i => G0 (ref_Progs_m0 a b i)) fu k' := by
  intro fu
  induction fu with
  | zero => intros; rfl
  | succ fu ih =>
    intro k'
    rw [ref_Progs_h2 nf G0 a b i fu k']
    simp only [ih]
    rfl
theorem ref_Progs_h0 (nf : Nat)  (a : TBlfn1) (b : TBlfn1) (fu : Nat) (i : Int) : iter (fu + 1) (LC.F tab (ref_Progs_phi nf) (fun _ F => iter nf F) ref_Progs_keep 0 (ref_Progs_L0 nf )) (ref_Progs_m0 a b i) = ref_Progs_b0 nf (fun _ _ p2 v0 => iter nf (LC.F tab (ref_Progs_phi nf) (fun _ F => iter nf F) ref_Progs_keep 2 (ref_Progs_L2 nf (iter fu (LC.F tab (ref_Progs_phi nf) (fun _ F => iter nf F) ref_Progs_keep 0 (ref_Progs_L0 nf ))))) (ref_Progs_m2 a b p2 v0)) a b  (fun i => iter fu (LC.F tab (ref_Progs_phi nf) (fun _ F => iter nf F) ref_Progs_keep 0 (ref_Progs_L0 nf )) (ref_Progs_m0 a b i)) i := by kernel_rfl
theorem ref_Progs_e0 (nf : Nat)  (a : TBlfn1) (b : TBlfn1) : ∀ (fu : Nat) (i : Int), iter fu (LC.F tab (ref_Progs_phi nf) (fun _ F => iter nf F) ref_Progs_keep 0 (ref_Progs_L0 nf )) (ref_Progs_m0 a b i) = ref_Progs_l0 nf a b  fu i := by
  intro fu
  induction fu with
  | zero => intros; rfl
  | succ fu ih =>
    intro i
    rw [ref_Progs_h0 nf  a b fu i]
    simp only [ih, ref_Progs_e2]
    rfl
theorem ref_Progs_eq (nf : Nat) (a : TBlfn1) (b : TBlfn1) : runF tab (ref_Progs_phi nf) ref_Progs_keep nf [PT.val (tI5fn1.sl.pair ((Ty.int IntKind.i64).pair tI2fn1)).sl (Md.bor true false), PT.val (tI5fn1.sl.pair ((Ty.int IntKind.i64).pair tI2fn1)).sl (Md.bor true false)] [(Ty.bool, Md.bor false true)] (resL ([]) Try.f34) (codeOf Try.f34) ⟨a, b, ()⟩ = ref_Progs_f nf a b := by
  have h : runF tab (ref_Progs_phi nf) ref_Progs_keep nf [PT.val (tI5fn1.sl.pair ((Ty.int IntKind.i64).pair tI2fn1)).sl (Md.bor true false), PT.val (tI5fn1.sl.pair ((Ty.int IntKind.i64).pair tI2fn1)).sl (Md.bor true false)] [(Ty.bool, Md.bor false true)] (resL ([]) Try.f34) (codeOf Try.f34) ⟨a, b, ()⟩ = ref_Progs_p nf (fun p0 p1 v0 => iter nf (LC.F tab (ref_Progs_phi nf) (fun _ F => iter nf F) ref_Progs_keep 0 (ref_Progs_L0 nf)) (ref_Progs_m0 p0 p1 v0)) a b := by kernel_rfl
  rw [h]
  simp only [ref_Progs_e0]
  rfl
def ref_Progs_F (nf : Nat) (x : denPs [.val (.sl (.pair (.sl tI5fn1) tI3fn1)) (.bor true false), .val (.sl (.pair (.sl tI5fn1) tI3fn1)) (.bor true false)]) : Option (denL [(.bool, .bor false true)]) := ref_Progs_f nf x.1 x.2.1
def ref_Progs_C (nf : Nat) : Contract := ⟨[.val (.sl (.pair (.sl tI5fn1) tI3fn1)) (.bor true false), .val (.sl (.pair (.sl tI5fn1) tI3fn1)) (.bor true false)], [(.bool, .bor false true)], ref_Progs_F nf, []⟩
theorem ref_Progs_ok : FnOK Try.prog 34 := ⟨Try.f34, codeOf Try.f34, Try.func34, by kernel_rfl, by kernel_rfl⟩
theorem ref_Progs_holds (nf : Nat) : Contract.Holds Try.prog 34 (ref_Progs_C nf) :=
  fn_holds (Φ := ref_Progs_phi nf) (keep := ref_Progs_keep) (n := nf) ⟨tabs.1, tabs.2, ctx_nil, mixed, bk_ok bkls rfl⟩ (fn := Try.f34) ⟨Try.func34, by kernel_rfl, by kernel_rfl, by kernel_rfl⟩ (fun x => ref_Progs_eq nf x.1 x.2.1)

/-! codemason codemasonref.Inside -/
def ref_Inside_phi (nf : Nat) : Nat → Option Contract := lookC []
def ref_Inside_keep : Nat → List Nat := lookK [(0, [0, 1, 7, 8, 9])]
def ref_Inside_b0 (nf : Nat) (n' : Int) (l' : List Int) (g0 : Int → Option (Bool × Unit)) (t9 : Int) : Option (Bool × Unit) :=
  bif decide (t9 < (↑l'.length : Int)) then
    bif inb t9 l'.length then
      bif decide (l'.getD t9.toNat 0 < 0) then
        some ((false, ()))
      else
        bif decide (l'.getD t9.toNat 0 ≥ n') then
          some ((false, ()))
        else
          g0 (IntKind.i64.wrap (t9 + 1))
    else
      none
  else
    some ((true, ()))
def ref_Inside_p (nf : Nat) (l0 : Int → List Int → Int → Option (Bool × Unit)) (n' : Int) (l' : List Int) : Option (Bool × Unit) :=
  l0 n' l' 0
def ref_Inside_l0 (nf : Nat) (n' : Int) (l' : List Int) : Nat → Int → Option (Bool × Unit)
  | 0, _ => none
  | fu + 1, t9 => ref_Inside_b0 nf  n' l'  (ref_Inside_l0 nf n' l'  fu) t9
def ref_Inside_f (nf : Nat) (n' : Int) (l' : List Int) : Option (Bool × Unit) := ref_Inside_p nf (fun p0 p1 v0 => ref_Inside_l0 nf p0 p1 nf v0) n' l'
noncomputable def ref_Inside_L0 (nf : Nat) : LC (Bool × Unit) := theL (findL tab (ref_Inside_phi nf) (fun _ F => iter nf F) ref_Inside_keep 0 0 (codeOf Try.f55) (fin tab [(Ty.bool, Md.bor false true)] (resL ([]) Try.f55)) (fun _ _ => none) (fin tab [(Ty.bool, Md.bor false true)] (resL ([]) Try.f55)))
def ref_Inside_m0 (n' : Int) (l' : List Int) (t9 : Int) : St := ⟨fresh, [(0, AV.v (Ty.int IntKind.i64) (Md.bor false true) n'), (1, AV.v (Ty.int IntKind.i64).sl (Md.bor true false) l'), (7, AV.v (Ty.int IntKind.i64).sl (Md.bor true false) l'), (8, AV.v (Ty.int IntKind.i64) (Md.bor false true) (↑l'.length : Int)), (9, AV.v (Ty.int IntKind.i64) (Md.bor false true) t9)]⟩
theorem ref_Inside_h0 (nf : Nat)  (n' : Int) (l' : List Int) (fu : Nat) (t9 : Int) : iter (fu + 1) (LC.F tab (ref_Inside_phi nf) (fun _ F => iter nf F) ref_Inside_keep 0 (ref_Inside_L0 nf )) (ref_Inside_m0 n' l' t9) = ref_Inside_b0 nf  n' l'  (fun t9 => iter fu (LC.F tab (ref_Inside_phi nf) (fun _ F => iter nf F) ref_Inside_keep 0 (ref_Inside_L0 nf )) (ref_Inside_m0 n' l' t9)) t9 := by kernel_rfl
theorem ref_Inside_e0 (nf : Nat)  (n' : Int) (l' : List Int) : ∀ (fu : Nat) (t9 : Int), iter fu (LC.F tab (ref_Inside_phi nf) (fun _ F => iter nf F) ref_Inside_keep 0 (ref_Inside_L0 nf )) (ref_Inside_m0 n' l' t9) = ref_Inside_l0 nf n' l'  fu t9 := by
  intro fu
  induction fu with
  | zero => intros; rfl
  | succ fu ih =>
    intro t9
    rw [ref_Inside_h0 nf  n' l' fu t9]
    simp only [ih]
    rfl
theorem ref_Inside_eq (nf : Nat) (n' : Int) (l' : List Int) : runF tab (ref_Inside_phi nf) ref_Inside_keep nf [PT.val (Ty.int IntKind.i64) (Md.bor true false), PT.val (Ty.int IntKind.i64).sl (Md.bor true false)] [(Ty.bool, Md.bor false true)] (resL ([]) Try.f55) (codeOf Try.f55) ⟨n', l', ()⟩ = ref_Inside_f nf n' l' := by
  have h : runF tab (ref_Inside_phi nf) ref_Inside_keep nf [PT.val (Ty.int IntKind.i64) (Md.bor true false), PT.val (Ty.int IntKind.i64).sl (Md.bor true false)] [(Ty.bool, Md.bor false true)] (resL ([]) Try.f55) (codeOf Try.f55) ⟨n', l', ()⟩ = ref_Inside_p nf (fun p0 p1 v0 => iter nf (LC.F tab (ref_Inside_phi nf) (fun _ F => iter nf F) ref_Inside_keep 0 (ref_Inside_L0 nf)) (ref_Inside_m0 p0 p1 v0)) n' l' := by kernel_rfl
  rw [h]
  simp only [ref_Inside_e0]
  rfl
def ref_Inside_F (nf : Nat) (x : denPs [.val (.int .i64) (.bor true false), .val (.sl (.int .i64)) (.bor true false)]) : Option (denL [(.bool, .bor false true)]) := ref_Inside_f nf x.1 x.2.1
def ref_Inside_C (nf : Nat) : Contract := ⟨[.val (.int .i64) (.bor true false), .val (.sl (.int .i64)) (.bor true false)], [(.bool, .bor false true)], ref_Inside_F nf, []⟩
theorem ref_Inside_ok : FnOK Try.prog 55 := ⟨Try.f55, codeOf Try.f55, Try.func55, by kernel_rfl, by kernel_rfl⟩
theorem ref_Inside_holds (nf : Nat) : Contract.Holds Try.prog 55 (ref_Inside_C nf) :=
  fn_holds (Φ := ref_Inside_phi nf) (keep := ref_Inside_keep) (n := nf) ⟨tabs.1, tabs.2, ctx_nil, mixed, bk_ok bkls rfl⟩ (fn := Try.f55) ⟨Try.func55, by kernel_rfl, by kernel_rfl, by kernel_rfl⟩ (fun x => ref_Inside_eq nf x.1 x.2.1)

/-! codemason codemasonref.Value -/
def ref_Value_phi (nf : Nat) : Nat → Option Contract := lookC []
def ref_Value_keep : Nat → List Nat := lookK []
def ref_Value_p (nf : Nat)  (x : Int) : Option (Bool × Unit) :=
  bif decide (x ≥ 0) then
    some ((decide (x ≤ 255), ()))
  else
    some ((false, ()))
def ref_Value_f (nf : Nat) (x : Int) : Option (Bool × Unit) := ref_Value_p nf  x
theorem ref_Value_eq (nf : Nat) (x : Int) : runF tab (ref_Value_phi nf) ref_Value_keep nf [PT.val (Ty.int IntKind.i64) (Md.bor true false)] [(Ty.bool, Md.bor false true)] (resL ([]) Try.f96) (codeOf Try.f96) ⟨x, ()⟩ = ref_Value_f nf x := by
  have h : runF tab (ref_Value_phi nf) ref_Value_keep nf [PT.val (Ty.int IntKind.i64) (Md.bor true false)] [(Ty.bool, Md.bor false true)] (resL ([]) Try.f96) (codeOf Try.f96) ⟨x, ()⟩ = ref_Value_p nf  x := by kernel_rfl
  exact h
def ref_Value_F (nf : Nat) (x : denPs [.val (.int .i64) (.bor true false)]) : Option (denL [(.bool, .bor false true)]) := ref_Value_f nf x.1
def ref_Value_C (nf : Nat) : Contract := ⟨[.val (.int .i64) (.bor true false)], [(.bool, .bor false true)], ref_Value_F nf, []⟩
theorem ref_Value_ok : FnOK Try.prog 96 := ⟨Try.f96, codeOf Try.f96, Try.func96, by kernel_rfl, by kernel_rfl⟩
theorem ref_Value_holds (nf : Nat) : Contract.Holds Try.prog 96 (ref_Value_C nf) :=
  fn_holds (Φ := ref_Value_phi nf) (keep := ref_Value_keep) (n := nf) ⟨tabs.1, tabs.2, ctx_nil, mixed, bk_ok bkls rfl⟩ (fn := Try.f96) ⟨Try.func96, by kernel_rfl, by kernel_rfl, by kernel_rfl⟩ (fun x => ref_Value_eq nf x.1)

/-! codemason codemasonref.StepCheck -/
def ref_StepCheck_phi (nf : Nat) : Nat → Option Contract := lookC [(55, ref_Inside_C nf), (96, ref_Value_C nf)]
def ref_StepCheck_keep : Nat → List Nat := lookK []
def ref_StepCheck_p (nf : Nat)  (vars : Int) (regs : Int) (s : Int × Int × Int × Int × Int × Unit) : Option (Int × Unit) :=
  bif decide (s.fst < 1) then
    some ((6, ()))
  else
    bif decide (s.fst > 6) then
      some ((6, ()))
    else
      bif s.fst == 1 then
        Option.bind (ref_Value_f nf s.snd.snd.snd.snd.fst) fun r =>
        bif !r.fst then
          some ((4, ()))
        else
          bif s.fst == 2 then
            Option.bind (ref_Inside_f nf vars ([s.snd.snd.snd.snd.fst])) fun r2 =>
            bif !r2.fst then
              some ((4, ()))
            else
              Option.bind (ref_Inside_f nf regs ([s.snd.fst])) fun r3 =>
              bif !r3.fst then
                some ((2, ()))
              else
                bif decide (s.fst ≥ 3) then
                  Option.bind (ref_Inside_f nf regs ([s.snd.snd.fst, s.snd.snd.snd.fst])) fun r4 =>
                  bif !r4.fst then
                    some ((2, ()))
                  else
                    some ((0, ()))
                else
                  some ((0, ()))
          else
            Option.bind (ref_Inside_f nf regs ([s.snd.fst])) fun r5 =>
            bif !r5.fst then
              some ((2, ()))
            else
              bif decide (s.fst ≥ 3) then
                Option.bind (ref_Inside_f nf regs ([s.snd.snd.fst, s.snd.snd.snd.fst])) fun r6 =>
                bif !r6.fst then
                  some ((2, ()))
                else
                  some ((0, ()))
              else
                some ((0, ()))
      else
        bif s.fst == 2 then
          Option.bind (ref_Inside_f nf vars ([s.snd.snd.snd.snd.fst])) fun r7 =>
          bif !r7.fst then
            some ((4, ()))
          else
            Option.bind (ref_Inside_f nf regs ([s.snd.fst])) fun r8 =>
            bif !r8.fst then
              some ((2, ()))
            else
              bif decide (s.fst ≥ 3) then
                Option.bind (ref_Inside_f nf regs ([s.snd.snd.fst, s.snd.snd.snd.fst])) fun r9 =>
                bif !r9.fst then
                  some ((2, ()))
                else
                  some ((0, ()))
              else
                some ((0, ()))
        else
          Option.bind (ref_Inside_f nf regs ([s.snd.fst])) fun r10 =>
          bif !r10.fst then
            some ((2, ()))
          else
            bif decide (s.fst ≥ 3) then
              Option.bind (ref_Inside_f nf regs ([s.snd.snd.fst, s.snd.snd.snd.fst])) fun r11 =>
              bif !r11.fst then
                some ((2, ()))
              else
                some ((0, ()))
            else
              some ((0, ()))
def ref_StepCheck_f (nf : Nat) (vars : Int) (regs : Int) (s : Int × Int × Int × Int × Int × Unit) : Option (Int × Unit) := ref_StepCheck_p nf  vars regs s
theorem ref_StepCheck_eq (nf : Nat) (vars : Int) (regs : Int) (s : Int × Int × Int × Int × Int × Unit) : runF tab (ref_StepCheck_phi nf) ref_StepCheck_keep nf [PT.val (Ty.int IntKind.i64) (Md.bor true false), PT.val (Ty.int IntKind.i64) (Md.bor true false), PT.val tI5fn1 (Md.bor true false)] [(Ty.int IntKind.i64, Md.bor false true)] (resL ([]) Try.f66) (codeOf Try.f66) ⟨vars, regs, s, ()⟩ = ref_StepCheck_f nf vars regs s := by
  have h : runF tab (ref_StepCheck_phi nf) ref_StepCheck_keep nf [PT.val (Ty.int IntKind.i64) (Md.bor true false), PT.val (Ty.int IntKind.i64) (Md.bor true false), PT.val tI5fn1 (Md.bor true false)] [(Ty.int IntKind.i64, Md.bor false true)] (resL ([]) Try.f66) (codeOf Try.f66) ⟨vars, regs, s, ()⟩ = ref_StepCheck_p nf  vars regs s := by kernel_rfl
  exact h
def ref_StepCheck_F (nf : Nat) (x : denPs [.val (.int .i64) (.bor true false), .val (.int .i64) (.bor true false), .val tI5fn1 (.bor true false)]) : Option (denL [(.int .i64, .bor false true)]) := ref_StepCheck_f nf x.1 x.2.1 x.2.2.1
def ref_StepCheck_C (nf : Nat) : Contract := ⟨[.val (.int .i64) (.bor true false), .val (.int .i64) (.bor true false), .val tI5fn1 (.bor true false)], [(.int .i64, .bor false true)], ref_StepCheck_F nf, []⟩
theorem ref_StepCheck_ok : FnOK Try.prog 66 := ⟨Try.f66, codeOf Try.f66, Try.func66, by kernel_rfl, by kernel_rfl⟩
theorem ref_StepCheck_holds (nf : Nat) : Contract.Holds Try.prog 66 (ref_StepCheck_C nf) :=
  fn_holds (Φ := ref_StepCheck_phi nf) (keep := ref_StepCheck_keep) (n := nf) ⟨tabs.1, tabs.2, (ctx_cons ref_Inside_ok (ref_Inside_holds nf) (ctx_cons ref_Value_ok (ref_Value_holds nf) ctx_nil)), mixed, bk_ok bkls rfl⟩ (fn := Try.f66) ⟨Try.func66, by kernel_rfl, by kernel_rfl, by kernel_rfl⟩ (fun x => ref_StepCheck_eq nf x.1 x.2.1 x.2.2.1)

/-! codemason codemasonref.ProgCheck -/
def ref_ProgCheck_phi (nf : Nat) : Nat → Option Contract := lookC [(55, ref_Inside_C nf), (66, ref_StepCheck_C nf)]
def ref_ProgCheck_keep : Nat → List Nat := lookK [(4, [0, 1, 9, 45, 46, 47, 51, 52, 53, 54]), (2, [0, 1, 45, 46, 47]), (0, [0, 1, 5, 13, 14, 15])]
def ref_ProgCheck_b0 (nf : Nat) (l2 : Int → TBlfn1 → Int → Option (Int × Unit)) (vars : Int) (p : TBlfn1) (g0 : Int → Int → Option (Int × Unit)) (many : Int) (t15 : Int) : Option (Int × Unit) :=
  bif decide (t15 < (↑p.length : Int)) then
    bif inb t15 p.length then
      g0 (IntKind.i64.wrap (many + (↑(List.length (p.getD t15.toNat ([], 0, 0, 0, ())).fst) : Int))) (IntKind.i64.wrap (t15 + 1))
    else
      none
  else
    bif decide (vars < 1) then
      some ((1, ()))
    else
      bif decide (vars > 6) then
        some ((1, ()))
      else
        bif decide ((↑p.length : Int) < 1) then
          some ((1, ()))
        else
          bif decide ((↑p.length : Int) > 8) then
            some ((1, ()))
          else
            bif decide (many > 20) then
              some ((1, ()))
            else
              l2 vars p 0
def ref_ProgCheck_b2 (nf : Nat) (l4 : Int → TBlfn1 → Int → TStfn1 × Int × Int × Int × Unit → Int → Option (Int × Unit)) (vars : Int) (p : TBlfn1) (g2 : Int → Option (Int × Unit)) (t47 : Int) : Option (Int × Unit) :=
  bif decide (t47 < (↑p.length : Int)) then
    bif inb t47 p.length then
      l4 vars p t47 (p.getD t47.toNat ([], 0, 0, 0, ())) 0
    else
      none
  else
    some ((0, ()))
def ref_ProgCheck_b4 (nf : Nat) (vars : Int) (p : TBlfn1) (t47 : Int) (g2 : Int → Option (Int × Unit)) (g4 : TStfn1 × Int × Int × Int × Unit → Int → Option (Int × Unit)) (b : TStfn1 × Int × Int × Int × Unit) (t54 : Int) : Option (Int × Unit) :=
  bif decide (t54 < (↑(List.length (p.getD t47.toNat ([], 0, 0, 0, ())).fst) : Int)) then
    bif inb t54 (List.length (p.getD t47.toNat ([], 0, 0, 0, ())).fst) then
      Option.bind (ref_StepCheck_f nf vars vars (List.getD (p.getD t47.toNat ([], 0, 0, 0, ())).fst t54.toNat (0, 0, 0, 0, 0, ()))) fun r =>
      bif r.fst != 0 then
        some ((r.fst, ()))
      else
        g4 b (IntKind.i64.wrap (t54 + 1))
    else
      none
  else
    bif b.snd.fst != (-1) then
      Option.bind (ref_Inside_f nf vars ([b.snd.fst])) fun r2 =>
      bif !r2.fst then
        some ((2, ()))
      else
        bif b.snd.fst == (-1) then
          bif b.snd.snd.fst != (-1) then
            Option.bind (ref_Inside_f nf ((↑p.length : Int)) ([b.snd.snd.fst])) fun r3 =>
            bif !r3.fst then
              some ((3, ()))
            else
              bif decide (b.snd.fst ≥ 0) then
                Option.bind (ref_Inside_f nf ((↑p.length : Int)) ([b.snd.snd.fst, b.snd.snd.snd.fst])) fun r4 =>
                bif !r4.fst then
                  some ((3, ()))
                else
                  g2 (IntKind.i64.wrap (t47 + 1))
              else
                g2 (IntKind.i64.wrap (t47 + 1))
          else
            bif decide (b.snd.fst ≥ 0) then
              Option.bind (ref_Inside_f nf ((↑p.length : Int)) ([b.snd.snd.fst, b.snd.snd.snd.fst])) fun r5 =>
              bif !r5.fst then
                some ((3, ()))
              else
                g2 (IntKind.i64.wrap (t47 + 1))
            else
              g2 (IntKind.i64.wrap (t47 + 1))
        else
          bif decide (b.snd.fst ≥ 0) then
            Option.bind (ref_Inside_f nf ((↑p.length : Int)) ([b.snd.snd.fst, b.snd.snd.snd.fst])) fun r6 =>
            bif !r6.fst then
              some ((3, ()))
            else
              g2 (IntKind.i64.wrap (t47 + 1))
          else
            g2 (IntKind.i64.wrap (t47 + 1))
    else
      bif b.snd.fst == (-1) then
        bif b.snd.snd.fst != (-1) then
          Option.bind (ref_Inside_f nf ((↑p.length : Int)) ([b.snd.snd.fst])) fun r7 =>
          bif !r7.fst then
            some ((3, ()))
          else
            bif decide (b.snd.fst ≥ 0) then
              Option.bind (ref_Inside_f nf ((↑p.length : Int)) ([b.snd.snd.fst, b.snd.snd.snd.fst])) fun r8 =>
              bif !r8.fst then
                some ((3, ()))
              else
                g2 (IntKind.i64.wrap (t47 + 1))
            else
              g2 (IntKind.i64.wrap (t47 + 1))
        else
          bif decide (b.snd.fst ≥ 0) then
            Option.bind (ref_Inside_f nf ((↑p.length : Int)) ([b.snd.snd.fst, b.snd.snd.snd.fst])) fun r9 =>
            bif !r9.fst then
              some ((3, ()))
            else
              g2 (IntKind.i64.wrap (t47 + 1))
          else
            g2 (IntKind.i64.wrap (t47 + 1))
      else
        bif decide (b.snd.fst ≥ 0) then
          Option.bind (ref_Inside_f nf ((↑p.length : Int)) ([b.snd.snd.fst, b.snd.snd.snd.fst])) fun r10 =>
          bif !r10.fst then
            some ((3, ()))
          else
            g2 (IntKind.i64.wrap (t47 + 1))
        else
          g2 (IntKind.i64.wrap (t47 + 1))
def ref_ProgCheck_p (nf : Nat) (l0 : Int → TBlfn1 → Int → Int → Option (Int × Unit)) (vars : Int) (p : TBlfn1) : Option (Int × Unit) :=
  l0 vars p 0 0
def ref_ProgCheck_l4 (nf : Nat) (vars : Int) (p : TBlfn1) (t47 : Int) (g2 : Int → Option (Int × Unit)) : Nat → TStfn1 × Int × Int × Int × Unit → Int → Option (Int × Unit)
  | 0, _, _ => none
  | fu + 1, b, t54 => ref_ProgCheck_b4 nf  vars p t47 g2 (ref_ProgCheck_l4 nf vars p t47 g2 fu) b t54
def ref_ProgCheck_l2 (nf : Nat) (vars : Int) (p : TBlfn1) : Nat → Int → Option (Int × Unit)
  | 0, _ => none
  | fu + 1, t47 => ref_ProgCheck_b2 nf (fun _ _ p2 v0 v1 => ref_ProgCheck_l4 nf vars p p2 (fun t47 => ref_ProgCheck_l2 nf vars p  fu t47) nf v0 v1) vars p  (ref_ProgCheck_l2 nf vars p  fu) t47
def ref_ProgCheck_l0 (nf : Nat) (vars : Int) (p : TBlfn1) : Nat → Int → Int → Option (Int × Unit)
  | 0, _, _ => none
  | fu + 1, many, t15 => ref_ProgCheck_b0 nf (fun _ _ v0 => ref_ProgCheck_l2 nf vars p  nf v0) vars p  (ref_ProgCheck_l0 nf vars p  fu) many t15
def ref_ProgCheck_f (nf : Nat) (vars : Int) (p : TBlfn1) : Option (Int × Unit) := ref_ProgCheck_p nf (fun p0 p1 v0 v1 => ref_ProgCheck_l0 nf p0 p1 nf v0 v1) vars p
noncomputable def ref_ProgCheck_L0 (nf : Nat) : LC (Int × Unit) := theL (findL tab (ref_ProgCheck_phi nf) (fun _ F => iter nf F) ref_ProgCheck_keep 0 0 (codeOf Try.f20) (fin tab [(Ty.int IntKind.i64, Md.bor false true)] (resL ([]) Try.f20)) (fun _ _ => none) (fin tab [(Ty.int IntKind.i64, Md.bor false true)] (resL ([]) Try.f20)))
def ref_ProgCheck_m0 (vars : Int) (p : TBlfn1) (many : Int) (t15 : Int) : St := ⟨fresh, [(0, AV.v (Ty.int IntKind.i64) (Md.bor false true) vars), (1, AV.v (tI5fn1.sl.pair ((Ty.int IntKind.i64).pair tI2fn1)).sl (Md.bor true false) p), (5, AV.v (Ty.int IntKind.i64) (Md.bor false true) many), (13, AV.v (tI5fn1.sl.pair ((Ty.int IntKind.i64).pair tI2fn1)).sl (Md.bor true false) p), (14, AV.v (Ty.int IntKind.i64) (Md.bor false true) (↑p.length : Int)), (15, AV.v (Ty.int IntKind.i64) (Md.bor false true) t15)]⟩
noncomputable def ref_ProgCheck_L2 (nf : Nat) : LC (Int × Unit) := theL (findL tab (ref_ProgCheck_phi nf) (fun _ F => iter nf F) ref_ProgCheck_keep 2 0 (codeOf Try.f20) (fin tab [(Ty.int IntKind.i64, Md.bor false true)] (resL ([]) Try.f20)) (fun _ _ => none) (fin tab [(Ty.int IntKind.i64, Md.bor false true)] (resL ([]) Try.f20)))
def ref_ProgCheck_m2 (vars : Int) (p : TBlfn1) (t47 : Int) : St := ⟨fresh, [(0, AV.v (Ty.int IntKind.i64) (Md.bor false true) vars), (1, AV.v (tI5fn1.sl.pair ((Ty.int IntKind.i64).pair tI2fn1)).sl (Md.bor true false) p), (45, AV.v (tI5fn1.sl.pair ((Ty.int IntKind.i64).pair tI2fn1)).sl (Md.bor true false) p), (46, AV.v (Ty.int IntKind.i64) (Md.bor false true) (↑p.length : Int)), (47, AV.v (Ty.int IntKind.i64) (Md.bor false true) t47)]⟩
noncomputable def ref_ProgCheck_L4 (nf : Nat) (G2 : St → Option (Int × Unit)) : LC (Int × Unit) := theL (findL tab (ref_ProgCheck_phi nf) (fun _ F => iter nf F) ref_ProgCheck_keep 4 2 (ref_ProgCheck_L2 nf ).c (fun st => norm (ref_ProgCheck_keep 2) st G2) (ref_ProgCheck_L2 nf ).Kx (ref_ProgCheck_L2 nf ).Kr)
def ref_ProgCheck_m4 (vars : Int) (p : TBlfn1) (t47 : Int) (b : TStfn1 × Int × Int × Int × Unit) (t54 : Int) : St := ⟨fresh, [(0, AV.v (Ty.int IntKind.i64) (Md.bor false true) vars), (1, AV.v (tI5fn1.sl.pair ((Ty.int IntKind.i64).pair tI2fn1)).sl (Md.bor true false) p), (9, AV.box 9 500009 (tI5fn1.sl.pair ((Ty.int IntKind.i64).pair tI2fn1)) (Md.bor true false) b), (45, AV.v (tI5fn1.sl.pair ((Ty.int IntKind.i64).pair tI2fn1)).sl (Md.bor true false) p), (46, AV.v (Ty.int IntKind.i64) (Md.bor false true) (↑p.length : Int)), (47, AV.v (Ty.int IntKind.i64) (Md.bor false true) t47), (51, AV.pl 9 9 [Stp.dr, Stp.fld 0]), (52, AV.v tI5fn1.sl (Md.bor true false) (p.getD t47.toNat ([], 0, 0, 0, ())).fst), (53, AV.v (Ty.int IntKind.i64) (Md.bor false true) (↑(List.length (p.getD t47.toNat ([], 0, 0, 0, ())).fst) : Int)), (54, AV.v (Ty.int IntKind.i64) (Md.bor false true) t54)]⟩
theorem ref_ProgCheck_h4 (nf : Nat) (G2 : St → Option (Int × Unit)) (vars : Int) (p : TBlfn1) (t47 : Int) (fu : Nat) (b : TStfn1 × Int × Int × Int × Unit) (t54 : Int) : iter (fu + 1) (LC.F tab (ref_ProgCheck_phi nf) (fun _ F => iter nf F) ref_ProgCheck_keep 4 (ref_ProgCheck_L4 nf G2)) (ref_ProgCheck_m4 vars p t47 b t54) = ref_ProgCheck_b4 nf  vars p t47 (fun t47 => G2 (ref_ProgCheck_m2 vars p t47)) (fun b t54 => iter fu (LC.F tab (ref_ProgCheck_phi nf) (fun _ F => iter nf F) ref_ProgCheck_keep 4 (ref_ProgCheck_L4 nf G2)) (ref_ProgCheck_m4 vars p t47 b t54)) b t54 := by kernel_rfl
theorem ref_ProgCheck_e4 (nf : Nat) (G2 : St → Option (Int × Unit)) (vars : Int) (p : TBlfn1) (t47 : Int) : ∀ (fu : Nat) (b : TStfn1 × Int × Int × Int × Unit) (t54 : Int), iter fu (LC.F tab (ref_ProgCheck_phi nf) (fun _ F => iter nf F) ref_ProgCheck_keep 4 (ref_ProgCheck_L4 nf G2)) (ref_ProgCheck_m4 vars p t47 b t54) = ref_ProgCheck_l4 nf vars p t47 (fun t47 => G2 (ref_ProgCheck_m2 vars p t47)) fu b t54 := by
  intro fu
  induction fu with
  | zero => intros; rfl
  | succ fu ih =>
    intro b t54
    rw [ref_ProgCheck_h4 nf G2 vars p t47 fu b t54]
    simp only [ih]
    rfl
theorem ref_ProgCheck_h2 (nf : Nat)  (vars : Int) (p : TBlfn1) (fu : Nat) (t47 : Int) : iter (fu + 1) (LC.F tab (ref_ProgCheck_phi nf) (fun _ F => iter nf F) ref_ProgCheck_keep 2 (ref_ProgCheck_L2 nf )) (ref_ProgCheck_m2 vars p t47) = ref_ProgCheck_b2 nf (fun _ _ p2 v0 v1 => iter nf (LC.F tab (ref_ProgCheck_phi nf) (fun _ F => iter nf F) ref_ProgCheck_keep 4 (ref_ProgCheck_L4 nf (iter fu (LC.F tab (ref_ProgCheck_phi nf) (fun _ F => iter nf F) ref_ProgCheck_keep 2 (ref_ProgCheck_L2 nf ))))) (ref_ProgCheck_m4 vars p p2 v0 v1)) vars p  (fun t47 => iter fu (LC.F tab (ref_ProgCheck_phi nf) (fun _ F => iter nf F) ref_ProgCheck_keep 2 (ref_ProgCheck_L2 nf )) (ref_ProgCheck_m2 vars p t47)) t47 := by kernel_rfl
theorem ref_ProgCheck_e2 (nf : Nat)  (vars : Int) (p : TBlfn1) : ∀ (fu : Nat) (t47 : Int), iter fu (LC.F tab (ref_ProgCheck_phi nf) (fun _ F => iter nf F) ref_ProgCheck_keep 2 (ref_ProgCheck_L2 nf )) (ref_ProgCheck_m2 vars p t47) = ref_ProgCheck_l2 nf vars p  fu t47 := by
  intro fu
  induction fu with
  | zero => intros; rfl
  | succ fu ih =>
    intro t47
    rw [ref_ProgCheck_h2 nf  vars p fu t47]
    simp only [ih, ref_ProgCheck_e4]
    rfl
theorem ref_ProgCheck_h0 (nf : Nat)  (vars : Int) (p : TBlfn1) (fu : Nat) (many : Int) (t15 : Int) : iter (fu + 1) (LC.F tab (ref_ProgCheck_phi nf) (fun _ F => iter nf F) ref_ProgCheck_keep 0 (ref_ProgCheck_L0 nf )) (ref_ProgCheck_m0 vars p many t15) = ref_ProgCheck_b0 nf (fun _ _ v0 => iter nf (LC.F tab (ref_ProgCheck_phi nf) (fun _ F => iter nf F) ref_ProgCheck_keep 2 (ref_ProgCheck_L2 nf )) (ref_ProgCheck_m2 vars p v0)) vars p  (fun many t15 => iter fu (LC.F tab (ref_ProgCheck_phi nf) (fun _ F => iter nf F) ref_ProgCheck_keep 0 (ref_ProgCheck_L0 nf )) (ref_ProgCheck_m0 vars p many t15)) many t15 := by kernel_rfl
theorem ref_ProgCheck_e0 (nf : Nat)  (vars : Int) (p : TBlfn1) : ∀ (fu : Nat) (many : Int) (t15 : Int), iter fu (LC.F tab (ref_ProgCheck_phi nf) (fun _ F => iter nf F) ref_ProgCheck_keep 0 (ref_ProgCheck_L0 nf )) (ref_ProgCheck_m0 vars p many t15) = ref_ProgCheck_l0 nf vars p  fu many t15 := by
  intro fu
  induction fu with
  | zero => intros; rfl
  | succ fu ih =>
    intro many t15
    rw [ref_ProgCheck_h0 nf  vars p fu many t15]
    simp only [ih, ref_ProgCheck_e2]
    rfl
theorem ref_ProgCheck_eq (nf : Nat) (vars : Int) (p : TBlfn1) : runF tab (ref_ProgCheck_phi nf) ref_ProgCheck_keep nf [PT.val (Ty.int IntKind.i64) (Md.bor true false), PT.val (tI5fn1.sl.pair ((Ty.int IntKind.i64).pair tI2fn1)).sl (Md.bor true false)] [(Ty.int IntKind.i64, Md.bor false true)] (resL ([]) Try.f20) (codeOf Try.f20) ⟨vars, p, ()⟩ = ref_ProgCheck_f nf vars p := by
  have h : runF tab (ref_ProgCheck_phi nf) ref_ProgCheck_keep nf [PT.val (Ty.int IntKind.i64) (Md.bor true false), PT.val (tI5fn1.sl.pair ((Ty.int IntKind.i64).pair tI2fn1)).sl (Md.bor true false)] [(Ty.int IntKind.i64, Md.bor false true)] (resL ([]) Try.f20) (codeOf Try.f20) ⟨vars, p, ()⟩ = ref_ProgCheck_p nf (fun p0 p1 v0 v1 => iter nf (LC.F tab (ref_ProgCheck_phi nf) (fun _ F => iter nf F) ref_ProgCheck_keep 0 (ref_ProgCheck_L0 nf)) (ref_ProgCheck_m0 p0 p1 v0 v1)) vars p := by kernel_rfl
  rw [h]
  simp only [ref_ProgCheck_e0]
  rfl
def ref_ProgCheck_F (nf : Nat) (x : denPs [.val (.int .i64) (.bor true false), .val (.sl (.pair (.sl tI5fn1) tI3fn1)) (.bor true false)]) : Option (denL [(.int .i64, .bor false true)]) := ref_ProgCheck_f nf x.1 x.2.1
def ref_ProgCheck_C (nf : Nat) : Contract := ⟨[.val (.int .i64) (.bor true false), .val (.sl (.pair (.sl tI5fn1) tI3fn1)) (.bor true false)], [(.int .i64, .bor false true)], ref_ProgCheck_F nf, []⟩
theorem ref_ProgCheck_ok : FnOK Try.prog 20 := ⟨Try.f20, codeOf Try.f20, Try.func20, by kernel_rfl, by kernel_rfl⟩
theorem ref_ProgCheck_holds (nf : Nat) : Contract.Holds Try.prog 20 (ref_ProgCheck_C nf) :=
  fn_holds (Φ := ref_ProgCheck_phi nf) (keep := ref_ProgCheck_keep) (n := nf) ⟨tabs.1, tabs.2, (ctx_cons ref_Inside_ok (ref_Inside_holds nf) (ctx_cons ref_StepCheck_ok (ref_StepCheck_holds nf) ctx_nil)), mixed, bk_ok bkls rfl⟩ (fn := Try.f20) ⟨Try.func20, by kernel_rfl, by kernel_rfl, by kernel_rfl⟩ (fun x => ref_ProgCheck_eq nf x.1 x.2.1)

/-! codemason codemasonref.StartCheck -/
def ref_StartCheck_phi (nf : Nat) : Nat → Option Contract := lookC [(96, ref_Value_C nf)]
def ref_StartCheck_keep : Nat → List Nat := lookK [(0, [1, 11, 12, 13])]
def ref_StartCheck_b0 (nf : Nat) (have' : List Int) (g0 : Int → Option (Int × Unit)) (t13 : Int) : Option (Int × Unit) :=
  bif decide (t13 < (↑have'.length : Int)) then
    bif inb t13 have'.length then
      bif have'.getD t13.toNat 0 != (-1) then
        Option.bind (ref_Value_f nf (have'.getD t13.toNat 0)) fun r =>
        bif !r.fst then
          some ((4, ()))
        else
          g0 (IntKind.i64.wrap (t13 + 1))
      else
        g0 (IntKind.i64.wrap (t13 + 1))
    else
      none
  else
    some ((0, ()))
def ref_StartCheck_p (nf : Nat) (l0 : List Int → Int → Option (Int × Unit)) (vars : Int) (have' : List Int) : Option (Int × Unit) :=
  bif (↑have'.length : Int) != vars then
    some ((3, ()))
  else
    l0 have' 0
def ref_StartCheck_l0 (nf : Nat) (have' : List Int) : Nat → Int → Option (Int × Unit)
  | 0, _ => none
  | fu + 1, t13 => ref_StartCheck_b0 nf  have'  (ref_StartCheck_l0 nf have'  fu) t13
def ref_StartCheck_f (nf : Nat) (vars : Int) (have' : List Int) : Option (Int × Unit) := ref_StartCheck_p nf (fun p0 v0 => ref_StartCheck_l0 nf p0 nf v0) vars have'
noncomputable def ref_StartCheck_L0 (nf : Nat) : LC (Int × Unit) := theL (findL tab (ref_StartCheck_phi nf) (fun _ F => iter nf F) ref_StartCheck_keep 0 0 (codeOf Try.f83) (fin tab [(Ty.int IntKind.i64, Md.bor false true)] (resL ([]) Try.f83)) (fun _ _ => none) (fin tab [(Ty.int IntKind.i64, Md.bor false true)] (resL ([]) Try.f83)))
def ref_StartCheck_m0 (have' : List Int) (t13 : Int) : St := ⟨fresh, [(1, AV.v (Ty.int IntKind.i64).sl (Md.bor true false) have'), (11, AV.v (Ty.int IntKind.i64).sl (Md.bor true false) have'), (12, AV.v (Ty.int IntKind.i64) (Md.bor false true) (↑have'.length : Int)), (13, AV.v (Ty.int IntKind.i64) (Md.bor false true) t13)]⟩
theorem ref_StartCheck_h0 (nf : Nat)  (have' : List Int) (fu : Nat) (t13 : Int) : iter (fu + 1) (LC.F tab (ref_StartCheck_phi nf) (fun _ F => iter nf F) ref_StartCheck_keep 0 (ref_StartCheck_L0 nf )) (ref_StartCheck_m0 have' t13) = ref_StartCheck_b0 nf  have'  (fun t13 => iter fu (LC.F tab (ref_StartCheck_phi nf) (fun _ F => iter nf F) ref_StartCheck_keep 0 (ref_StartCheck_L0 nf )) (ref_StartCheck_m0 have' t13)) t13 := by kernel_rfl
theorem ref_StartCheck_e0 (nf : Nat)  (have' : List Int) : ∀ (fu : Nat) (t13 : Int), iter fu (LC.F tab (ref_StartCheck_phi nf) (fun _ F => iter nf F) ref_StartCheck_keep 0 (ref_StartCheck_L0 nf )) (ref_StartCheck_m0 have' t13) = ref_StartCheck_l0 nf have'  fu t13 := by
  intro fu
  induction fu with
  | zero => intros; rfl
  | succ fu ih =>
    intro t13
    rw [ref_StartCheck_h0 nf  have' fu t13]
    simp only [ih]
    rfl
theorem ref_StartCheck_eq (nf : Nat) (vars : Int) (have' : List Int) : runF tab (ref_StartCheck_phi nf) ref_StartCheck_keep nf [PT.val (Ty.int IntKind.i64) (Md.bor true false), PT.val (Ty.int IntKind.i64).sl (Md.bor true false)] [(Ty.int IntKind.i64, Md.bor false true)] (resL ([]) Try.f83) (codeOf Try.f83) ⟨vars, have', ()⟩ = ref_StartCheck_f nf vars have' := by
  have h : runF tab (ref_StartCheck_phi nf) ref_StartCheck_keep nf [PT.val (Ty.int IntKind.i64) (Md.bor true false), PT.val (Ty.int IntKind.i64).sl (Md.bor true false)] [(Ty.int IntKind.i64, Md.bor false true)] (resL ([]) Try.f83) (codeOf Try.f83) ⟨vars, have', ()⟩ = ref_StartCheck_p nf (fun p0 v0 => iter nf (LC.F tab (ref_StartCheck_phi nf) (fun _ F => iter nf F) ref_StartCheck_keep 0 (ref_StartCheck_L0 nf)) (ref_StartCheck_m0 p0 v0)) vars have' := by kernel_rfl
  rw [h]
  simp only [ref_StartCheck_e0]
  rfl
def ref_StartCheck_F (nf : Nat) (x : denPs [.val (.int .i64) (.bor true false), .val (.sl (.int .i64)) (.bor true false)]) : Option (denL [(.int .i64, .bor false true)]) := ref_StartCheck_f nf x.1 x.2.1
def ref_StartCheck_C (nf : Nat) : Contract := ⟨[.val (.int .i64) (.bor true false), .val (.sl (.int .i64)) (.bor true false)], [(.int .i64, .bor false true)], ref_StartCheck_F nf, []⟩
theorem ref_StartCheck_ok : FnOK Try.prog 83 := ⟨Try.f83, codeOf Try.f83, Try.func83, by kernel_rfl, by kernel_rfl⟩
theorem ref_StartCheck_holds (nf : Nat) : Contract.Holds Try.prog 83 (ref_StartCheck_C nf) :=
  fn_holds (Φ := ref_StartCheck_phi nf) (keep := ref_StartCheck_keep) (n := nf) ⟨tabs.1, tabs.2, (ctx_cons ref_Value_ok (ref_Value_holds nf) ctx_nil), mixed, bk_ok bkls rfl⟩ (fn := Try.f83) ⟨Try.func83, by kernel_rfl, by kernel_rfl, by kernel_rfl⟩ (fun x => ref_StartCheck_eq nf x.1 x.2.1)

/-! codemason codemasonlaw.startCode -/
def law_startCode_phi (nf : Nat) : Nat → Option Contract := lookC [(20, ref_ProgCheck_C nf), (83, ref_StartCheck_C nf)]
def law_startCode_keep : Nat → List Nat := lookK []
def law_startCode_p (nf : Nat)  (vars : Int) (p : TBlfn1) (have' : List Int) : Option (Int × Unit) :=
  Option.bind (ref_ProgCheck_f nf vars p) fun r =>
  bif r.fst == 0 then
    Option.bind (ref_StartCheck_f nf vars have') fun r2 =>
    some ((r2.fst, ()))
  else
    some ((r.fst, ()))
def law_startCode_f (nf : Nat) (vars : Int) (p : TBlfn1) (have' : List Int) : Option (Int × Unit) := law_startCode_p nf  vars p have'
theorem law_startCode_eq (nf : Nat) (vars : Int) (p : TBlfn1) (have' : List Int) : runF tab (law_startCode_phi nf) law_startCode_keep nf [PT.val (Ty.int IntKind.i64) (Md.bor true false), PT.val (tI5fn1.sl.pair ((Ty.int IntKind.i64).pair tI2fn1)).sl (Md.bor true false), PT.val (Ty.int IntKind.i64).sl (Md.bor true false)] [(Ty.int IntKind.i64, Md.bor false true)] (resL ([]) Try.f37) (codeOf Try.f37) ⟨vars, p, have', ()⟩ = law_startCode_f nf vars p have' := by
  have h : runF tab (law_startCode_phi nf) law_startCode_keep nf [PT.val (Ty.int IntKind.i64) (Md.bor true false), PT.val (tI5fn1.sl.pair ((Ty.int IntKind.i64).pair tI2fn1)).sl (Md.bor true false), PT.val (Ty.int IntKind.i64).sl (Md.bor true false)] [(Ty.int IntKind.i64, Md.bor false true)] (resL ([]) Try.f37) (codeOf Try.f37) ⟨vars, p, have', ()⟩ = law_startCode_p nf  vars p have' := by kernel_rfl
  exact h
def law_startCode_F (nf : Nat) (x : denPs [.val (.int .i64) (.bor true false), .val (.sl (.pair (.sl tI5fn1) tI3fn1)) (.bor true false), .val (.sl (.int .i64)) (.bor true false)]) : Option (denL [(.int .i64, .bor false true)]) := law_startCode_f nf x.1 x.2.1 x.2.2.1
def law_startCode_C (nf : Nat) : Contract := ⟨[.val (.int .i64) (.bor true false), .val (.sl (.pair (.sl tI5fn1) tI3fn1)) (.bor true false), .val (.sl (.int .i64)) (.bor true false)], [(.int .i64, .bor false true)], law_startCode_F nf, []⟩
theorem law_startCode_ok : FnOK Try.prog 37 := ⟨Try.f37, codeOf Try.f37, Try.func37, by kernel_rfl, by kernel_rfl⟩
theorem law_startCode_holds (nf : Nat) : Contract.Holds Try.prog 37 (law_startCode_C nf) :=
  fn_holds (Φ := law_startCode_phi nf) (keep := law_startCode_keep) (n := nf) ⟨tabs.1, tabs.2, (ctx_cons ref_ProgCheck_ok (ref_ProgCheck_holds nf) (ctx_cons ref_StartCheck_ok (ref_StartCheck_holds nf) ctx_nil)), mixed, bk_ok bkls rfl⟩ (fn := Try.f37) ⟨Try.func37, by kernel_rfl, by kernel_rfl, by kernel_rfl⟩ (fun x => law_startCode_eq nf x.1 x.2.1 x.2.2.1)

/-! codemason block.step 1 -/
def block_step_1_phi (nf : Nat) : Nat → Option Contract := lookC []
def block_step_1_keep : Nat → List Nat := lookK []
def block_step_1_p (nf : Nat)  (i : Int) (c1 : Int) : Option (Bool × Unit) :=
  bif decide (i ≥ 0) then
    some ((decide (i < c1), ()))
  else
    some ((false, ()))
def block_step_1_f (nf : Nat) (i : Int) (c1 : Int) : Option (Bool × Unit) := block_step_1_p nf  i c1
theorem block_step_1_eq (nf : Nat) (i : Int) (c1 : Int) : runF tab (block_step_1_phi nf) block_step_1_keep nf [PT.val (Ty.int IntKind.i64) (Md.bor true false), PT.ptr (Ty.int IntKind.i64) (Md.bor true false)] [(Ty.bool, Md.bor false true)] (resL ([]) Try.f117) (codeOf Try.f117) ⟨i, c1, ()⟩ = block_step_1_f nf i c1 := by
  have h : runF tab (block_step_1_phi nf) block_step_1_keep nf [PT.val (Ty.int IntKind.i64) (Md.bor true false), PT.ptr (Ty.int IntKind.i64) (Md.bor true false)] [(Ty.bool, Md.bor false true)] (resL ([]) Try.f117) (codeOf Try.f117) ⟨i, c1, ()⟩ = block_step_1_p nf  i c1 := by kernel_rfl
  exact h
def block_step_1_F (nf : Nat) (x : denPs [.val (.int .i64) (.bor true false), .ptr (.int .i64) (.bor true false)]) : Option (denL [(.bool, .bor false true)]) := block_step_1_f nf x.1 x.2.1
def block_step_1_C (nf : Nat) : Contract := ⟨[.val (.int .i64) (.bor true false), .ptr (.int .i64) (.bor true false)], [(.bool, .bor false true)], block_step_1_F nf, []⟩
theorem block_step_1_ok : FnOK Try.prog 117 := ⟨Try.f117, codeOf Try.f117, Try.func117, by kernel_rfl, by kernel_rfl⟩
theorem block_step_1_holds (nf : Nat) : Contract.Holds Try.prog 117 (block_step_1_C nf) :=
  fn_holds (Φ := block_step_1_phi nf) (keep := block_step_1_keep) (n := nf) ⟨tabs.1, tabs.2, ctx_nil, mixed, bk_ok bkls rfl⟩ (fn := Try.f117) ⟨Try.func117, by kernel_rfl, by kernel_rfl, by kernel_rfl⟩ (fun x => block_step_1_eq nf x.1 x.2.1)

/-! codemason block.step -/
def block_step_phi (nf : Nat) : Nat → Option Contract := lookC [(117, block_step_1_C nf)]
def block_step_keep : Nat → List Nat := lookK []
def block_step_p (nf : Nat)  (vars : Int) (s : Int × Int × Int × Int × Int × Unit) : Option (Int × Unit) :=
  bif decide (s.fst < 1) then
    some ((6, ()))
  else
    bif decide (s.fst > 6) then
      some ((6, ()))
    else
      bif s.fst == 1 then
        bif decide (s.snd.snd.snd.snd.fst < 0) then
          some ((4, ()))
        else
          bif decide (s.snd.snd.snd.snd.fst > 255) then
            some ((4, ()))
          else
            bif s.fst == 2 then
              Option.bind (block_step_1_f nf s.snd.snd.snd.snd.fst vars) fun r =>
              bif !r.fst then
                some ((4, ()))
              else
                Option.bind (block_step_1_f nf s.snd.fst vars) fun r2 =>
                bif !r2.fst then
                  some ((2, ()))
                else
                  bif decide (s.fst > 2) then
                    Option.bind (block_step_1_f nf s.snd.snd.fst vars) fun r3 =>
                    bif !r3.fst then
                      some ((2, ()))
                    else
                      Option.bind (block_step_1_f nf s.snd.snd.snd.fst vars) fun r4 =>
                      bif !r4.fst then
                        some ((2, ()))
                      else
                        some ((0, ()))
                  else
                    some ((0, ()))
            else
              Option.bind (block_step_1_f nf s.snd.fst vars) fun r5 =>
              bif !r5.fst then
                some ((2, ()))
              else
                bif decide (s.fst > 2) then
                  Option.bind (block_step_1_f nf s.snd.snd.fst vars) fun r6 =>
                  bif !r6.fst then
                    some ((2, ()))
                  else
                    Option.bind (block_step_1_f nf s.snd.snd.snd.fst vars) fun r7 =>
                    bif !r7.fst then
                      some ((2, ()))
                    else
                      some ((0, ()))
                else
                  some ((0, ()))
      else
        bif s.fst == 2 then
          Option.bind (block_step_1_f nf s.snd.snd.snd.snd.fst vars) fun r8 =>
          bif !r8.fst then
            some ((4, ()))
          else
            Option.bind (block_step_1_f nf s.snd.fst vars) fun r9 =>
            bif !r9.fst then
              some ((2, ()))
            else
              bif decide (s.fst > 2) then
                Option.bind (block_step_1_f nf s.snd.snd.fst vars) fun r10 =>
                bif !r10.fst then
                  some ((2, ()))
                else
                  Option.bind (block_step_1_f nf s.snd.snd.snd.fst vars) fun r11 =>
                  bif !r11.fst then
                    some ((2, ()))
                  else
                    some ((0, ()))
              else
                some ((0, ()))
        else
          Option.bind (block_step_1_f nf s.snd.fst vars) fun r12 =>
          bif !r12.fst then
            some ((2, ()))
          else
            bif decide (s.fst > 2) then
              Option.bind (block_step_1_f nf s.snd.snd.fst vars) fun r13 =>
              bif !r13.fst then
                some ((2, ()))
              else
                Option.bind (block_step_1_f nf s.snd.snd.snd.fst vars) fun r14 =>
                bif !r14.fst then
                  some ((2, ()))
                else
                  some ((0, ()))
            else
              some ((0, ()))
def block_step_f (nf : Nat) (vars : Int) (s : Int × Int × Int × Int × Int × Unit) : Option (Int × Unit) := block_step_p nf  vars s
theorem block_step_eq (nf : Nat) (vars : Int) (s : Int × Int × Int × Int × Int × Unit) : runF tab (block_step_phi nf) block_step_keep nf [PT.val (Ty.int IntKind.i64) (Md.bor true false), PT.val tI5fn1 (Md.bor true false)] [(Ty.int IntKind.i64, Md.bor false true)] (resL ([]) Try.f64) (codeOf Try.f64) ⟨vars, s, ()⟩ = block_step_f nf vars s := by
  have h : runF tab (block_step_phi nf) block_step_keep nf [PT.val (Ty.int IntKind.i64) (Md.bor true false), PT.val tI5fn1 (Md.bor true false)] [(Ty.int IntKind.i64, Md.bor false true)] (resL ([]) Try.f64) (codeOf Try.f64) ⟨vars, s, ()⟩ = block_step_p nf  vars s := by kernel_rfl
  exact h
def block_step_F (nf : Nat) (x : denPs [.val (.int .i64) (.bor true false), .val tI5fn1 (.bor true false)]) : Option (denL [(.int .i64, .bor false true)]) := block_step_f nf x.1 x.2.1
def block_step_C (nf : Nat) : Contract := ⟨[.val (.int .i64) (.bor true false), .val tI5fn1 (.bor true false)], [(.int .i64, .bor false true)], block_step_F nf, []⟩
theorem block_step_ok : FnOK Try.prog 64 := ⟨Try.f64, codeOf Try.f64, Try.func64, by kernel_rfl, by kernel_rfl⟩
theorem block_step_holds (nf : Nat) : Contract.Holds Try.prog 64 (block_step_C nf) :=
  fn_holds (Φ := block_step_phi nf) (keep := block_step_keep) (n := nf) ⟨tabs.1, tabs.2, (ctx_cons block_step_1_ok (block_step_1_holds nf) ctx_nil), mixed, bk_ok bkls rfl⟩ (fn := Try.f64) ⟨Try.func64, by kernel_rfl, by kernel_rfl, by kernel_rfl⟩ (fun x => block_step_eq nf x.1 x.2.1)

/-! codemason block.Check 1 -/
def block_Check_1_phi (nf : Nat) : Nat → Option Contract := lookC []
def block_Check_1_keep : Nat → List Nat := lookK []
def block_Check_1_p (nf : Nat)  (i : Int) (c1 : TBlfn1) : Option (Bool × Unit) :=
  bif decide (i ≥ 0) then
    some ((decide (i < (↑c1.length : Int)), ()))
  else
    some ((false, ()))
def block_Check_1_f (nf : Nat) (i : Int) (c1 : TBlfn1) : Option (Bool × Unit) := block_Check_1_p nf  i c1
theorem block_Check_1_eq (nf : Nat) (i : Int) (c1 : TBlfn1) : runF tab (block_Check_1_phi nf) block_Check_1_keep nf [PT.val (Ty.int IntKind.i64) (Md.bor true false), PT.ptr (tI5fn1.sl.pair ((Ty.int IntKind.i64).pair tI2fn1)).sl (Md.bor true false)] [(Ty.bool, Md.bor false true)] (resL ([]) Try.f65) (codeOf Try.f65) ⟨i, c1, ()⟩ = block_Check_1_f nf i c1 := by
  have h : runF tab (block_Check_1_phi nf) block_Check_1_keep nf [PT.val (Ty.int IntKind.i64) (Md.bor true false), PT.ptr (tI5fn1.sl.pair ((Ty.int IntKind.i64).pair tI2fn1)).sl (Md.bor true false)] [(Ty.bool, Md.bor false true)] (resL ([]) Try.f65) (codeOf Try.f65) ⟨i, c1, ()⟩ = block_Check_1_p nf  i c1 := by kernel_rfl
  exact h
def block_Check_1_F (nf : Nat) (x : denPs [.val (.int .i64) (.bor true false), .ptr (.sl (.pair (.sl tI5fn1) tI3fn1)) (.bor true false)]) : Option (denL [(.bool, .bor false true)]) := block_Check_1_f nf x.1 x.2.1
def block_Check_1_C (nf : Nat) : Contract := ⟨[.val (.int .i64) (.bor true false), .ptr (.sl (.pair (.sl tI5fn1) tI3fn1)) (.bor true false)], [(.bool, .bor false true)], block_Check_1_F nf, []⟩
theorem block_Check_1_ok : FnOK Try.prog 65 := ⟨Try.f65, codeOf Try.f65, Try.func65, by kernel_rfl, by kernel_rfl⟩
theorem block_Check_1_holds (nf : Nat) : Contract.Holds Try.prog 65 (block_Check_1_C nf) :=
  fn_holds (Φ := block_Check_1_phi nf) (keep := block_Check_1_keep) (n := nf) ⟨tabs.1, tabs.2, ctx_nil, mixed, bk_ok bkls rfl⟩ (fn := Try.f65) ⟨Try.func65, by kernel_rfl, by kernel_rfl, by kernel_rfl⟩ (fun x => block_Check_1_eq nf x.1 x.2.1)

/-! codemason block.Check -/
def block_Check_phi (nf : Nat) : Nat → Option Contract := lookC [(64, block_step_C nf), (65, block_Check_1_C nf)]
def block_Check_keep : Nat → List Nat := lookK [(4, [0, 1, 3, 9, 46, 47, 48, 52, 53, 54, 55]), (2, [0, 1, 3, 46, 47, 48]), (0, [0, 1, 3, 5, 14, 15, 16])]
def block_Check_b0 (nf : Nat) (l2 : Int → TBlfn1 → TBlfn1 → TBlfn1 → Int → Option (Int × Unit)) (vars : Int) (p : TBlfn1) (g0 : TBlfn1 → Int → Int → Option (Int × Unit)) (p2 : TBlfn1) (many : Int) (t16 : Int) : Option (Int × Unit) :=
  bif decide (t16 < (↑p.length : Int)) then
    bif inb t16 p.length then
      g0 p2 (IntKind.i64.wrap (many + (↑(List.length (p.getD t16.toNat ([], 0, 0, 0, ())).fst) : Int))) (IntKind.i64.wrap (t16 + 1))
    else
      none
  else
    bif decide (vars < 1) then
      some ((1, ()))
    else
      bif decide (vars > 6) then
        some ((1, ()))
      else
        bif decide ((↑p2.length : Int) < 1) then
          some ((1, ()))
        else
          bif decide ((↑p2.length : Int) > 8) then
            some ((1, ()))
          else
            bif decide (many > 20) then
              some ((1, ()))
            else
              l2 vars p p2 p2 0
def block_Check_b2 (nf : Nat) (l4 : Int → TBlfn1 → TBlfn1 → Int → TBlfn1 → TStfn1 × Int × Int × Int × Unit → Int → Option (Int × Unit)) (vars : Int) (p : TBlfn1) (p2 : TBlfn1) (g2 : TBlfn1 → Int → Option (Int × Unit)) (p3 : TBlfn1) (t48 : Int) : Option (Int × Unit) :=
  bif decide (t48 < (↑p2.length : Int)) then
    bif inb t48 p2.length then
      l4 vars p p2 t48 p3 (p2.getD t48.toNat ([], 0, 0, 0, ())) 0
    else
      none
  else
    some ((0, ()))
def block_Check_b4 (nf : Nat) (vars : Int) (p : TBlfn1) (p2 : TBlfn1) (t48 : Int) (g2 : TBlfn1 → Int → Option (Int × Unit)) (g4 : TBlfn1 → TStfn1 × Int × Int × Int × Unit → Int → Option (Int × Unit)) (p4 : TBlfn1) (b : TStfn1 × Int × Int × Int × Unit) (t55 : Int) : Option (Int × Unit) :=
  bif decide (t55 < (↑(List.length (p2.getD t48.toNat ([], 0, 0, 0, ())).fst) : Int)) then
    bif inb t55 (List.length (p2.getD t48.toNat ([], 0, 0, 0, ())).fst) then
      Option.bind (block_step_f nf vars (List.getD (p2.getD t48.toNat ([], 0, 0, 0, ())).fst t55.toNat (0, 0, 0, 0, 0, ()))) fun r =>
      bif r.fst != 0 then
        some ((r.fst, ()))
      else
        g4 p4 b (IntKind.i64.wrap (t55 + 1))
    else
      none
  else
    bif decide (b.snd.fst < (-1)) then
      some ((2, ()))
    else
      bif decide (b.snd.fst ≥ vars) then
        some ((2, ()))
      else
        Option.bind (block_Check_1_f nf b.snd.snd.fst p4) fun r2 =>
        bif !r2.fst then
          bif b.snd.snd.fst != (-1) then
            some ((3, ()))
          else
            bif decide (b.snd.fst ≥ 0) then
              some ((3, ()))
            else
              bif decide (b.snd.fst ≥ 0) then
                Option.bind (block_Check_1_f nf b.snd.snd.snd.fst p4) fun r3 =>
                bif !r3.fst then
                  some ((3, ()))
                else
                  g2 p4 (IntKind.i64.wrap (t48 + 1))
              else
                g2 p4 (IntKind.i64.wrap (t48 + 1))
        else
          bif decide (b.snd.fst ≥ 0) then
            Option.bind (block_Check_1_f nf b.snd.snd.snd.fst p4) fun r4 =>
            bif !r4.fst then
              some ((3, ()))
            else
              g2 p4 (IntKind.i64.wrap (t48 + 1))
          else
            g2 p4 (IntKind.i64.wrap (t48 + 1))
def block_Check_p (nf : Nat) (l0 : Int → TBlfn1 → TBlfn1 → Int → Int → Option (Int × Unit)) (vars : Int) (p : TBlfn1) : Option (Int × Unit) :=
  l0 vars p p 0 0
def block_Check_l4 (nf : Nat) (vars : Int) (p : TBlfn1) (p2 : TBlfn1) (t48 : Int) (g2 : TBlfn1 → Int → Option (Int × Unit)) : Nat → TBlfn1 → TStfn1 × Int × Int × Int × Unit → Int → Option (Int × Unit)
  | 0, _, _, _ => none
  | fu + 1, p4, b, t55 => block_Check_b4 nf  vars p p2 t48 g2 (block_Check_l4 nf vars p p2 t48 g2 fu) p4 b t55
def block_Check_l2 (nf : Nat) (vars : Int) (p : TBlfn1) (p2 : TBlfn1) : Nat → TBlfn1 → Int → Option (Int × Unit)
  | 0, _, _ => none
  | fu + 1, p3, t48 => block_Check_b2 nf (fun _ _ _ p3 v0 v1 v2 => block_Check_l4 nf vars p p2 p3 (fun p3 t48 => block_Check_l2 nf vars p p2  fu p3 t48) nf v0 v1 v2) vars p p2  (block_Check_l2 nf vars p p2  fu) p3 t48
def block_Check_l0 (nf : Nat) (vars : Int) (p : TBlfn1) : Nat → TBlfn1 → Int → Int → Option (Int × Unit)
  | 0, _, _, _ => none
  | fu + 1, p2, many, t16 => block_Check_b0 nf (fun _ _ p2 v0 v1 => block_Check_l2 nf vars p p2  nf v0 v1) vars p  (block_Check_l0 nf vars p  fu) p2 many t16
def block_Check_f (nf : Nat) (vars : Int) (p : TBlfn1) : Option (Int × Unit) := block_Check_p nf (fun p0 p1 v0 v1 v2 => block_Check_l0 nf p0 p1 nf v0 v1 v2) vars p
noncomputable def block_Check_L0 (nf : Nat) : LC (Int × Unit) := theL (findL tab (block_Check_phi nf) (fun _ F => iter nf F) block_Check_keep 0 0 (codeOf Try.f19) (fin tab [(Ty.int IntKind.i64, Md.bor false true)] (resL ([]) Try.f19)) (fun _ _ => none) (fin tab [(Ty.int IntKind.i64, Md.bor false true)] (resL ([]) Try.f19)))
def block_Check_m0 (vars : Int) (p : TBlfn1) (p2 : TBlfn1) (many : Int) (t16 : Int) : St := ⟨fresh, [(0, AV.v (Ty.int IntKind.i64) (Md.bor false true) vars), (1, AV.v (tI5fn1.sl.pair ((Ty.int IntKind.i64).pair tI2fn1)).sl (Md.bor true false) p), (3, AV.box 3 500003 (tI5fn1.sl.pair ((Ty.int IntKind.i64).pair tI2fn1)).sl (Md.bor true false) p2), (5, AV.v (Ty.int IntKind.i64) (Md.bor false true) many), (14, AV.v (tI5fn1.sl.pair ((Ty.int IntKind.i64).pair tI2fn1)).sl (Md.bor true false) p), (15, AV.v (Ty.int IntKind.i64) (Md.bor false true) (↑p.length : Int)), (16, AV.v (Ty.int IntKind.i64) (Md.bor false true) t16)]⟩
noncomputable def block_Check_L2 (nf : Nat) : LC (Int × Unit) := theL (findL tab (block_Check_phi nf) (fun _ F => iter nf F) block_Check_keep 2 0 (codeOf Try.f19) (fin tab [(Ty.int IntKind.i64, Md.bor false true)] (resL ([]) Try.f19)) (fun _ _ => none) (fin tab [(Ty.int IntKind.i64, Md.bor false true)] (resL ([]) Try.f19)))
def block_Check_m2 (vars : Int) (p : TBlfn1) (p2 : TBlfn1) (p3 : TBlfn1) (t48 : Int) : St := ⟨fresh, [(0, AV.v (Ty.int IntKind.i64) (Md.bor false true) vars), (1, AV.v (tI5fn1.sl.pair ((Ty.int IntKind.i64).pair tI2fn1)).sl (Md.bor true false) p), (3, AV.box 3 500003 (tI5fn1.sl.pair ((Ty.int IntKind.i64).pair tI2fn1)).sl (Md.bor true false) p3), (46, AV.v (tI5fn1.sl.pair ((Ty.int IntKind.i64).pair tI2fn1)).sl (Md.bor true false) p2), (47, AV.v (Ty.int IntKind.i64) (Md.bor false true) (↑p2.length : Int)), (48, AV.v (Ty.int IntKind.i64) (Md.bor false true) t48)]⟩
noncomputable def block_Check_L4 (nf : Nat) (G2 : St → Option (Int × Unit)) : LC (Int × Unit) := theL (findL tab (block_Check_phi nf) (fun _ F => iter nf F) block_Check_keep 4 2 (block_Check_L2 nf ).c (fun st => norm (block_Check_keep 2) st G2) (block_Check_L2 nf ).Kx (block_Check_L2 nf ).Kr)
def block_Check_m4 (vars : Int) (p : TBlfn1) (p2 : TBlfn1) (t48 : Int) (p4 : TBlfn1) (b : TStfn1 × Int × Int × Int × Unit) (t55 : Int) : St := ⟨fresh, [(0, AV.v (Ty.int IntKind.i64) (Md.bor false true) vars), (1, AV.v (tI5fn1.sl.pair ((Ty.int IntKind.i64).pair tI2fn1)).sl (Md.bor true false) p), (3, AV.box 3 500003 (tI5fn1.sl.pair ((Ty.int IntKind.i64).pair tI2fn1)).sl (Md.bor true false) p4), (9, AV.box 9 500009 (tI5fn1.sl.pair ((Ty.int IntKind.i64).pair tI2fn1)) (Md.bor true false) b), (46, AV.v (tI5fn1.sl.pair ((Ty.int IntKind.i64).pair tI2fn1)).sl (Md.bor true false) p2), (47, AV.v (Ty.int IntKind.i64) (Md.bor false true) (↑p2.length : Int)), (48, AV.v (Ty.int IntKind.i64) (Md.bor false true) t48), (52, AV.pl 9 9 [Stp.dr, Stp.fld 0]), (53, AV.v tI5fn1.sl (Md.bor true false) (p2.getD t48.toNat ([], 0, 0, 0, ())).fst), (54, AV.v (Ty.int IntKind.i64) (Md.bor false true) (↑(List.length (p2.getD t48.toNat ([], 0, 0, 0, ())).fst) : Int)), (55, AV.v (Ty.int IntKind.i64) (Md.bor false true) t55)]⟩
theorem block_Check_h4 (nf : Nat) (G2 : St → Option (Int × Unit)) (vars : Int) (p : TBlfn1) (p2 : TBlfn1) (t48 : Int) (fu : Nat) (p4 : TBlfn1) (b : TStfn1 × Int × Int × Int × Unit) (t55 : Int) : iter (fu + 1) (LC.F tab (block_Check_phi nf) (fun _ F => iter nf F) block_Check_keep 4 (block_Check_L4 nf G2)) (block_Check_m4 vars p p2 t48 p4 b t55) = block_Check_b4 nf  vars p p2 t48 (fun p3 t48 => G2 (block_Check_m2 vars p p2 p3 t48)) (fun p4 b t55 => iter fu (LC.F tab (block_Check_phi nf) (fun _ F => iter nf F) block_Check_keep 4 (block_Check_L4 nf G2)) (block_Check_m4 vars p p2 t48 p4 b t55)) p4 b t55 := by kernel_rfl
theorem block_Check_e4 (nf : Nat) (G2 : St → Option (Int × Unit)) (vars : Int) (p : TBlfn1) (p2 : TBlfn1) (t48 : Int) : ∀ (fu : Nat) (p4 : TBlfn1) (b : TStfn1 × Int × Int × Int × Unit) (t55 : Int), iter fu (LC.F tab (block_Check_phi nf) (fun _ F => iter nf F) block_Check_keep 4 (block_Check_L4 nf G2)) (block_Check_m4 vars p p2 t48 p4 b t55) = block_Check_l4 nf vars p p2 t48 (fun p3 t48 => G2 (block_Check_m2 vars p p2 p3 t48)) fu p4 b t55 := by
  intro fu
  induction fu with
  | zero => intros; rfl
  | succ fu ih =>
    intro p4 b t55
    rw [block_Check_h4 nf G2 vars p p2 t48 fu p4 b t55]
    simp only [ih]
    rfl
theorem block_Check_h2 (nf : Nat)  (vars : Int) (p : TBlfn1) (p2 : TBlfn1) (fu : Nat) (p3 : TBlfn1) (t48 : Int) : iter (fu + 1) (LC.F tab (block_Check_phi nf) (fun _ F => iter nf F) block_Check_keep 2 (block_Check_L2 nf )) (block_Check_m2 vars p p2 p3 t48) = block_Check_b2 nf (fun _ _ _ p3 v0 v1 v2 => iter nf (LC.F tab (block_Check_phi nf) (fun _ F => iter nf F) block_Check_keep 4 (block_Check_L4 nf (iter fu (LC.F tab (block_Check_phi nf) (fun _ F => iter nf F) block_Check_keep 2 (block_Check_L2 nf ))))) (block_Check_m4 vars p p2 p3 v0 v1 v2)) vars p p2  (fun p3 t48 => iter fu (LC.F tab (block_Check_phi nf) (fun _ F => iter nf F) block_Check_keep 2 (block_Check_L2 nf )) (block_Check_m2 vars p p2 p3 t48)) p3 t48 := by kernel_rfl
theorem block_Check_e2 (nf : Nat)  (vars : Int) (p : TBlfn1) (p2 : TBlfn1) : ∀ (fu : Nat) (p3 : TBlfn1) (t48 : Int), iter fu (LC.F tab (block_Check_phi nf) (fun _ F => iter nf F) block_Check_keep 2 (block_Check_L2 nf )) (block_Check_m2 vars p p2 p3 t48) = block_Check_l2 nf vars p p2  fu p3 t48 := by
  intro fu
  induction fu with
  | zero => intros; rfl
  | succ fu ih =>
    intro p3 t48
    rw [block_Check_h2 nf  vars p p2 fu p3 t48]
    simp only [ih, block_Check_e4]
    rfl
theorem block_Check_h0 (nf : Nat)  (vars : Int) (p : TBlfn1) (fu : Nat) (p2 : TBlfn1) (many : Int) (t16 : Int) : iter (fu + 1) (LC.F tab (block_Check_phi nf) (fun _ F => iter nf F) block_Check_keep 0 (block_Check_L0 nf )) (block_Check_m0 vars p p2 many t16) = block_Check_b0 nf (fun _ _ p2 v0 v1 => iter nf (LC.F tab (block_Check_phi nf) (fun _ F => iter nf F) block_Check_keep 2 (block_Check_L2 nf )) (block_Check_m2 vars p p2 v0 v1)) vars p  (fun p2 many t16 => iter fu (LC.F tab (block_Check_phi nf) (fun _ F => iter nf F) block_Check_keep 0 (block_Check_L0 nf )) (block_Check_m0 vars p p2 many t16)) p2 many t16 := by kernel_rfl
theorem block_Check_e0 (nf : Nat)  (vars : Int) (p : TBlfn1) : ∀ (fu : Nat) (p2 : TBlfn1) (many : Int) (t16 : Int), iter fu (LC.F tab (block_Check_phi nf) (fun _ F => iter nf F) block_Check_keep 0 (block_Check_L0 nf )) (block_Check_m0 vars p p2 many t16) = block_Check_l0 nf vars p  fu p2 many t16 := by
  intro fu
  induction fu with
  | zero => intros; rfl
  | succ fu ih =>
    intro p2 many t16
    rw [block_Check_h0 nf  vars p fu p2 many t16]
    simp only [ih, block_Check_e2]
    rfl
theorem block_Check_eq (nf : Nat) (vars : Int) (p : TBlfn1) : runF tab (block_Check_phi nf) block_Check_keep nf [PT.val (Ty.int IntKind.i64) (Md.bor true false), PT.val (tI5fn1.sl.pair ((Ty.int IntKind.i64).pair tI2fn1)).sl (Md.bor true false)] [(Ty.int IntKind.i64, Md.bor false true)] (resL ([]) Try.f19) (codeOf Try.f19) ⟨vars, p, ()⟩ = block_Check_f nf vars p := by
  have h : runF tab (block_Check_phi nf) block_Check_keep nf [PT.val (Ty.int IntKind.i64) (Md.bor true false), PT.val (tI5fn1.sl.pair ((Ty.int IntKind.i64).pair tI2fn1)).sl (Md.bor true false)] [(Ty.int IntKind.i64, Md.bor false true)] (resL ([]) Try.f19) (codeOf Try.f19) ⟨vars, p, ()⟩ = block_Check_p nf (fun p0 p1 v0 v1 v2 => iter nf (LC.F tab (block_Check_phi nf) (fun _ F => iter nf F) block_Check_keep 0 (block_Check_L0 nf)) (block_Check_m0 p0 p1 v0 v1 v2)) vars p := by kernel_rfl
  rw [h]
  simp only [block_Check_e0]
  rfl
def block_Check_F (nf : Nat) (x : denPs [.val (.int .i64) (.bor true false), .val (.sl (.pair (.sl tI5fn1) tI3fn1)) (.bor true false)]) : Option (denL [(.int .i64, .bor false true)]) := block_Check_f nf x.1 x.2.1
def block_Check_C (nf : Nat) : Contract := ⟨[.val (.int .i64) (.bor true false), .val (.sl (.pair (.sl tI5fn1) tI3fn1)) (.bor true false)], [(.int .i64, .bor false true)], block_Check_F nf, []⟩
theorem block_Check_ok : FnOK Try.prog 19 := ⟨Try.f19, codeOf Try.f19, Try.func19, by kernel_rfl, by kernel_rfl⟩
theorem block_Check_holds (nf : Nat) : Contract.Holds Try.prog 19 (block_Check_C nf) :=
  fn_holds (Φ := block_Check_phi nf) (keep := block_Check_keep) (n := nf) ⟨tabs.1, tabs.2, (ctx_cons block_step_ok (block_step_holds nf) (ctx_cons block_Check_1_ok (block_Check_1_holds nf) ctx_nil)), mixed, bk_ok bkls rfl⟩ (fn := Try.f19) ⟨Try.func19, by kernel_rfl, by kernel_rfl, by kernel_rfl⟩ (fun x => block_Check_eq nf x.1 x.2.1)

/-! codemason known.wrong 1 -/
def known_wrong_1_phi (nf : Nat) : Nat → Option Contract := lookC []
def known_wrong_1_keep : Nat → List Nat := lookK []
def known_wrong_1_p (nf : Nat)  (x : Int) : Option (Bool × Unit) :=
  bif decide (x < (-1)) then
    some ((true, ()))
  else
    some ((decide (x > 255), ()))
def known_wrong_1_f (nf : Nat) (x : Int) : Option (Bool × Unit) := known_wrong_1_p nf  x
theorem known_wrong_1_eq (nf : Nat) (x : Int) : runF tab (known_wrong_1_phi nf) known_wrong_1_keep nf [PT.val (Ty.int IntKind.i64) (Md.bor true false)] [(Ty.bool, Md.bor false true)] (resL ([]) Try.f122) (codeOf Try.f122) ⟨x, ()⟩ = known_wrong_1_f nf x := by
  have h : runF tab (known_wrong_1_phi nf) known_wrong_1_keep nf [PT.val (Ty.int IntKind.i64) (Md.bor true false)] [(Ty.bool, Md.bor false true)] (resL ([]) Try.f122) (codeOf Try.f122) ⟨x, ()⟩ = known_wrong_1_p nf  x := by kernel_rfl
  exact h
def known_wrong_1_F (nf : Nat) (x : denPs [.val (.int .i64) (.bor true false)]) : Option (denL [(.bool, .bor false true)]) := known_wrong_1_f nf x.1
def known_wrong_1_C (nf : Nat) : Contract := ⟨[.val (.int .i64) (.bor true false)], [(.bool, .bor false true)], known_wrong_1_F nf, []⟩
theorem known_wrong_1_ok : FnOK Try.prog 122 := ⟨Try.f122, codeOf Try.f122, Try.func122, by kernel_rfl, by kernel_rfl⟩
theorem known_wrong_1_holds (nf : Nat) : Contract.Holds Try.prog 122 (known_wrong_1_C nf) :=
  fn_holds (Φ := known_wrong_1_phi nf) (keep := known_wrong_1_keep) (n := nf) ⟨tabs.1, tabs.2, ctx_nil, mixed, bk_ok bkls rfl⟩ (fn := Try.f122) ⟨Try.func122, by kernel_rfl, by kernel_rfl, by kernel_rfl⟩ (fun x => known_wrong_1_eq nf x.1)

/-! slices.IndexFunc   int int  codemason known.wrong 1 -/
def slices_IndexFunc__known_wrong_1_phi (nf : Nat) : Nat → Option Contract := lookC [(122, known_wrong_1_C nf)]
def slices_IndexFunc__known_wrong_1_keep : Nat → List Nat := lookK [(0, [0, 1, 7, 8])]
def slices_IndexFunc__known_wrong_1_b0 (nf : Nat) (s : List Int) (g0 : Int → Option (Int × Unit)) (t8 : Int) : Option (Int × Unit) :=
  bif decide (t8 < (↑s.length : Int)) then
    bif inb t8 s.length then
      Option.bind (known_wrong_1_f nf (s.getD t8.toNat 0)) fun r =>
      bif r.fst then
        some ((t8, ()))
      else
        g0 (IntKind.i64.wrap (t8 + 1))
    else
      none
  else
    some ((-1, ()))
def slices_IndexFunc__known_wrong_1_p (nf : Nat) (l0 : List Int → Int → Option (Int × Unit)) (s : List Int) (f : Unit) : Option (Int × Unit) :=
  l0 s 0
def slices_IndexFunc__known_wrong_1_l0 (nf : Nat) (s : List Int) : Nat → Int → Option (Int × Unit)
  | 0, _ => none
  | fu + 1, t8 => slices_IndexFunc__known_wrong_1_b0 nf  s  (slices_IndexFunc__known_wrong_1_l0 nf s  fu) t8
def slices_IndexFunc__known_wrong_1_f (nf : Nat) (s : List Int) (f : Unit) : Option (Int × Unit) := slices_IndexFunc__known_wrong_1_p nf (fun p0 v0 => slices_IndexFunc__known_wrong_1_l0 nf p0 nf v0) s f
noncomputable def slices_IndexFunc__known_wrong_1_L0 (nf : Nat) : LC (Int × Unit) := theL (findL tab (slices_IndexFunc__known_wrong_1_phi nf) (fun _ F => iter nf F) slices_IndexFunc__known_wrong_1_keep 0 0 (codeOf Try.f137) (fin tab [(Ty.int IntKind.i64, Md.bor false true)] (resL ([]) Try.f137)) (fun _ _ => none) (fin tab [(Ty.int IntKind.i64, Md.bor false true)] (resL ([]) Try.f137)))
def slices_IndexFunc__known_wrong_1_m0 (s : List Int) (t8 : Int) : St := ⟨fresh, [(0, AV.v (Ty.int IntKind.i64).sl (Md.bor true false) s), (1, AV.clo 122 []), (7, AV.v (Ty.int IntKind.i64) (Md.bor false true) (↑s.length : Int)), (8, AV.v (Ty.int IntKind.i64) (Md.bor false true) t8)]⟩
theorem slices_IndexFunc__known_wrong_1_h0 (nf : Nat)  (s : List Int) (fu : Nat) (t8 : Int) : iter (fu + 1) (LC.F tab (slices_IndexFunc__known_wrong_1_phi nf) (fun _ F => iter nf F) slices_IndexFunc__known_wrong_1_keep 0 (slices_IndexFunc__known_wrong_1_L0 nf )) (slices_IndexFunc__known_wrong_1_m0 s t8) = slices_IndexFunc__known_wrong_1_b0 nf  s  (fun t8 => iter fu (LC.F tab (slices_IndexFunc__known_wrong_1_phi nf) (fun _ F => iter nf F) slices_IndexFunc__known_wrong_1_keep 0 (slices_IndexFunc__known_wrong_1_L0 nf )) (slices_IndexFunc__known_wrong_1_m0 s t8)) t8 := by kernel_rfl
theorem slices_IndexFunc__known_wrong_1_e0 (nf : Nat)  (s : List Int) : ∀ (fu : Nat) (t8 : Int), iter fu (LC.F tab (slices_IndexFunc__known_wrong_1_phi nf) (fun _ F => iter nf F) slices_IndexFunc__known_wrong_1_keep 0 (slices_IndexFunc__known_wrong_1_L0 nf )) (slices_IndexFunc__known_wrong_1_m0 s t8) = slices_IndexFunc__known_wrong_1_l0 nf s  fu t8 := by
  intro fu
  induction fu with
  | zero => intros; rfl
  | succ fu ih =>
    intro t8
    rw [slices_IndexFunc__known_wrong_1_h0 nf  s fu t8]
    simp only [ih]
    rfl
theorem slices_IndexFunc__known_wrong_1_eq (nf : Nat) (s : List Int) (f : Unit) : runF tab (slices_IndexFunc__known_wrong_1_phi nf) slices_IndexFunc__known_wrong_1_keep nf [PT.val (Ty.int IntKind.i64).sl (Md.bor true false), PT.clo 122 []] [(Ty.int IntKind.i64, Md.bor false true)] (resL ([]) Try.f137) (codeOf Try.f137) ⟨s, f, ()⟩ = slices_IndexFunc__known_wrong_1_f nf s f := by
  have h : runF tab (slices_IndexFunc__known_wrong_1_phi nf) slices_IndexFunc__known_wrong_1_keep nf [PT.val (Ty.int IntKind.i64).sl (Md.bor true false), PT.clo 122 []] [(Ty.int IntKind.i64, Md.bor false true)] (resL ([]) Try.f137) (codeOf Try.f137) ⟨s, f, ()⟩ = slices_IndexFunc__known_wrong_1_p nf (fun p0 v0 => iter nf (LC.F tab (slices_IndexFunc__known_wrong_1_phi nf) (fun _ F => iter nf F) slices_IndexFunc__known_wrong_1_keep 0 (slices_IndexFunc__known_wrong_1_L0 nf)) (slices_IndexFunc__known_wrong_1_m0 p0 v0)) s f := by kernel_rfl
  rw [h]
  simp only [slices_IndexFunc__known_wrong_1_e0]
  rfl
def slices_IndexFunc__known_wrong_1_F (nf : Nat) (x : denPs [.val (.sl (.int .i64)) (.bor true false), .clo 122 []]) : Option (denL [(.int .i64, .bor false true)]) := slices_IndexFunc__known_wrong_1_f nf x.1 x.2.1
def slices_IndexFunc__known_wrong_1_C (nf : Nat) : Contract := ⟨[.val (.sl (.int .i64)) (.bor true false), .clo 122 []], [(.int .i64, .bor false true)], slices_IndexFunc__known_wrong_1_F nf, []⟩
theorem slices_IndexFunc__known_wrong_1_ok : FnOK Try.prog 137 := ⟨Try.f137, codeOf Try.f137, Try.func137, by kernel_rfl, by kernel_rfl⟩
theorem slices_IndexFunc__known_wrong_1_holds (nf : Nat) : Contract.Holds Try.prog 137 (slices_IndexFunc__known_wrong_1_C nf) :=
  fn_holds (Φ := slices_IndexFunc__known_wrong_1_phi nf) (keep := slices_IndexFunc__known_wrong_1_keep) (n := nf) ⟨tabs.1, tabs.2, (ctx_cons known_wrong_1_ok (known_wrong_1_holds nf) ctx_nil), mixed, bk_ok bkls rfl⟩ (fn := Try.f137) ⟨Try.func137, by kernel_rfl, by kernel_rfl, by kernel_rfl⟩ (fun x => slices_IndexFunc__known_wrong_1_eq nf x.1 x.2.1)

/-! slices.ContainsFunc   int int  codemason known.wrong 1 -/
def slices_ContainsFunc__known_wrong_1_phi (nf : Nat) : Nat → Option Contract := lookC [(137, slices_IndexFunc__known_wrong_1_C nf)]
def slices_ContainsFunc__known_wrong_1_keep : Nat → List Nat := lookK []
def slices_ContainsFunc__known_wrong_1_p (nf : Nat)  (s : List Int) (f : Unit) : Option (Bool × Unit) :=
  Option.bind (slices_IndexFunc__known_wrong_1_f nf s (())) fun r =>
  some ((decide (r.fst ≥ 0), ()))
def slices_ContainsFunc__known_wrong_1_f (nf : Nat) (s : List Int) (f : Unit) : Option (Bool × Unit) := slices_ContainsFunc__known_wrong_1_p nf  s f
theorem slices_ContainsFunc__known_wrong_1_eq (nf : Nat) (s : List Int) (f : Unit) : runF tab (slices_ContainsFunc__known_wrong_1_phi nf) slices_ContainsFunc__known_wrong_1_keep nf [PT.val (Ty.int IntKind.i64).sl (Md.bor true false), PT.clo 122 []] [(Ty.bool, Md.bor false true)] (resL ([]) Try.f118) (codeOf Try.f118) ⟨s, f, ()⟩ = slices_ContainsFunc__known_wrong_1_f nf s f := by
  have h : runF tab (slices_ContainsFunc__known_wrong_1_phi nf) slices_ContainsFunc__known_wrong_1_keep nf [PT.val (Ty.int IntKind.i64).sl (Md.bor true false), PT.clo 122 []] [(Ty.bool, Md.bor false true)] (resL ([]) Try.f118) (codeOf Try.f118) ⟨s, f, ()⟩ = slices_ContainsFunc__known_wrong_1_p nf  s f := by kernel_rfl
  exact h
def slices_ContainsFunc__known_wrong_1_F (nf : Nat) (x : denPs [.val (.sl (.int .i64)) (.bor true false), .clo 122 []]) : Option (denL [(.bool, .bor false true)]) := slices_ContainsFunc__known_wrong_1_f nf x.1 x.2.1
def slices_ContainsFunc__known_wrong_1_C (nf : Nat) : Contract := ⟨[.val (.sl (.int .i64)) (.bor true false), .clo 122 []], [(.bool, .bor false true)], slices_ContainsFunc__known_wrong_1_F nf, []⟩
theorem slices_ContainsFunc__known_wrong_1_ok : FnOK Try.prog 118 := ⟨Try.f118, codeOf Try.f118, Try.func118, by kernel_rfl, by kernel_rfl⟩
theorem slices_ContainsFunc__known_wrong_1_holds (nf : Nat) : Contract.Holds Try.prog 118 (slices_ContainsFunc__known_wrong_1_C nf) :=
  fn_holds (Φ := slices_ContainsFunc__known_wrong_1_phi nf) (keep := slices_ContainsFunc__known_wrong_1_keep) (n := nf) ⟨tabs.1, tabs.2, (ctx_cons slices_IndexFunc__known_wrong_1_ok (slices_IndexFunc__known_wrong_1_holds nf) ctx_nil), mixed, bk_ok bkls rfl⟩ (fn := Try.f118) ⟨Try.func118, by kernel_rfl, by kernel_rfl, by kernel_rfl⟩ (fun x => slices_ContainsFunc__known_wrong_1_eq nf x.1 x.2.1)

/-! codemason known.wrong -/
def known_wrong_phi (nf : Nat) : Nat → Option Contract := lookC [(19, block_Check_C nf), (118, slices_ContainsFunc__known_wrong_1_C nf)]
def known_wrong_keep : Nat → List Nat := lookK []
def known_wrong_p (nf : Nat)  (vars : Int) (p : TBlfn1) (have' : List Int) : Option (Int × Unit) :=
  Option.bind (block_Check_f nf vars p) fun r =>
  bif r.fst != 0 then
    some ((r.fst, ()))
  else
    bif (↑have'.length : Int) != vars then
      some ((3, ()))
    else
      Option.bind (slices_ContainsFunc__known_wrong_1_f nf have' (())) fun r2 =>
      bif r2.fst then
        some ((4, ()))
      else
        some ((0, ()))
def known_wrong_f (nf : Nat) (vars : Int) (p : TBlfn1) (have' : List Int) : Option (Int × Unit) := known_wrong_p nf  vars p have'
theorem known_wrong_eq (nf : Nat) (vars : Int) (p : TBlfn1) (have' : List Int) : runF tab (known_wrong_phi nf) known_wrong_keep nf [PT.val (Ty.int IntKind.i64) (Md.bor true false), PT.val (tI5fn1.sl.pair ((Ty.int IntKind.i64).pair tI2fn1)).sl (Md.bor true false), PT.val (Ty.int IntKind.i64).sl (Md.bor true false)] [(Ty.int IntKind.i64, Md.bor false true)] (resL ([]) Try.f81) (codeOf Try.f81) ⟨vars, p, have', ()⟩ = known_wrong_f nf vars p have' := by
  have h : runF tab (known_wrong_phi nf) known_wrong_keep nf [PT.val (Ty.int IntKind.i64) (Md.bor true false), PT.val (tI5fn1.sl.pair ((Ty.int IntKind.i64).pair tI2fn1)).sl (Md.bor true false), PT.val (Ty.int IntKind.i64).sl (Md.bor true false)] [(Ty.int IntKind.i64, Md.bor false true)] (resL ([]) Try.f81) (codeOf Try.f81) ⟨vars, p, have', ()⟩ = known_wrong_p nf  vars p have' := by kernel_rfl
  exact h
def known_wrong_F (nf : Nat) (x : denPs [.val (.int .i64) (.bor true false), .val (.sl (.pair (.sl tI5fn1) tI3fn1)) (.bor true false), .val (.sl (.int .i64)) (.bor true false)]) : Option (denL [(.int .i64, .bor false true)]) := known_wrong_f nf x.1 x.2.1 x.2.2.1
def known_wrong_C (nf : Nat) : Contract := ⟨[.val (.int .i64) (.bor true false), .val (.sl (.pair (.sl tI5fn1) tI3fn1)) (.bor true false), .val (.sl (.int .i64)) (.bor true false)], [(.int .i64, .bor false true)], known_wrong_F nf, []⟩
theorem known_wrong_ok : FnOK Try.prog 81 := ⟨Try.f81, codeOf Try.f81, Try.func81, by kernel_rfl, by kernel_rfl⟩
theorem known_wrong_holds (nf : Nat) : Contract.Holds Try.prog 81 (known_wrong_C nf) :=
  fn_holds (Φ := known_wrong_phi nf) (keep := known_wrong_keep) (n := nf) ⟨tabs.1, tabs.2, (ctx_cons block_Check_ok (block_Check_holds nf) (ctx_cons slices_ContainsFunc__known_wrong_1_ok (slices_ContainsFunc__known_wrong_1_holds nf) ctx_nil)), mixed, bk_ok bkls rfl⟩ (fn := Try.f81) ⟨Try.func81, by kernel_rfl, by kernel_rfl, by kernel_rfl⟩ (fun x => known_wrong_eq nf x.1 x.2.1 x.2.2.1)

/-! slices.Clone   int int  -/
def slices_Clone_phi (nf : Nat) : Nat → Option Contract := lookC []
def slices_Clone_keep : Nat → List Nat := lookK []
def slices_Clone_p (nf : Nat)  (s : List Int) : Option (List Int × Unit) :=
  bif s.isEmpty then
    both (some (([], ()))) (bif bimp false !s.isEmpty && ((List.length ([] : List Unit)) + s.length).ble lim then
      some (([] ++ s, ()))
    else
      none)
  else
    bif bimp false !s.isEmpty && ((List.length ([] : List Unit)) + s.length).ble lim then
      some (([] ++ s, ()))
    else
      none
def slices_Clone_f (nf : Nat) (s : List Int) : Option (List Int × Unit) := slices_Clone_p nf  s
theorem slices_Clone_eq (nf : Nat) (s : List Int) : runF tab (slices_Clone_phi nf) slices_Clone_keep nf [PT.val (Ty.int IntKind.i64).sl (Md.bor true false)] [((Ty.int IntKind.i64).sl, Md.own false (Md.bor false false))] (resL ([]) Try.f88) (codeOf Try.f88) ⟨s, ()⟩ = slices_Clone_f nf s := by
  have h : runF tab (slices_Clone_phi nf) slices_Clone_keep nf [PT.val (Ty.int IntKind.i64).sl (Md.bor true false)] [((Ty.int IntKind.i64).sl, Md.own false (Md.bor false false))] (resL ([]) Try.f88) (codeOf Try.f88) ⟨s, ()⟩ = slices_Clone_p nf  s := by kernel_rfl
  exact h
def slices_Clone_F (nf : Nat) (x : denPs [.val (.sl (.int .i64)) (.bor true false)]) : Option (denL [(.sl (.int .i64), .own false (.bor false false))]) := slices_Clone_f nf x.1
def slices_Clone_C (nf : Nat) : Contract := ⟨[.val (.sl (.int .i64)) (.bor true false)], [(.sl (.int .i64), .own false (.bor false false))], slices_Clone_F nf, []⟩
theorem slices_Clone_ok : FnOK Try.prog 88 := ⟨Try.f88, codeOf Try.f88, Try.func88, by kernel_rfl, by kernel_rfl⟩
theorem slices_Clone_holds (nf : Nat) : Contract.Holds Try.prog 88 (slices_Clone_C nf) :=
  fn_holds (Φ := slices_Clone_phi nf) (keep := slices_Clone_keep) (n := nf) ⟨tabs.1, tabs.2, ctx_nil, mixed, bk_ok bkls rfl⟩ (fn := Try.f88) ⟨Try.func88, by kernel_rfl, by kernel_rfl, by kernel_rfl⟩ (fun x => slices_Clone_eq nf x.1)

/-! codemason term.Do -/
def term_Do_phi (nf : Nat) : Nat → Option Contract := lookC []
def term_Do_keep : Nat → List Nat := lookK []
def term_Do_p (nf : Nat)  (op : Int) (a : Int) (b : Int) : Option (Int × Unit) :=
  bif op == 3 then
    some ((IntKind.i64.wrap (↑(BitVec.ofInt IntKind.i64.bits (IntKind.i64.wrap (a + b)) &&& BitVec.ofInt IntKind.i64.bits 255).toNat : Int), ()))
  else
    bif op == 4 then
      some ((IntKind.i64.wrap (↑(BitVec.ofInt IntKind.i64.bits (IntKind.i64.wrap (a - b)) &&& BitVec.ofInt IntKind.i64.bits 255).toNat : Int), ()))
    else
      bif op == 5 then
        some ((IntKind.i64.wrap (↑(BitVec.ofInt IntKind.i64.bits (IntKind.i64.wrap (a * b)) &&& BitVec.ofInt IntKind.i64.bits 255).toNat : Int), ()))
      else
        bif decide (a < b) then
          some ((1, ()))
        else
          some ((0, ()))
def term_Do_f (nf : Nat) (op : Int) (a : Int) (b : Int) : Option (Int × Unit) := term_Do_p nf  op a b
theorem term_Do_eq (nf : Nat) (op : Int) (a : Int) (b : Int) : runF tab (term_Do_phi nf) term_Do_keep nf [PT.val (Ty.int IntKind.i64) (Md.bor true false), PT.val (Ty.int IntKind.i64) (Md.bor true false), PT.val (Ty.int IntKind.i64) (Md.bor true false)] [(Ty.int IntKind.i64, Md.bor false true)] (resL ([]) Try.f112) (codeOf Try.f112) ⟨op, a, b, ()⟩ = term_Do_f nf op a b := by
  have h : runF tab (term_Do_phi nf) term_Do_keep nf [PT.val (Ty.int IntKind.i64) (Md.bor true false), PT.val (Ty.int IntKind.i64) (Md.bor true false), PT.val (Ty.int IntKind.i64) (Md.bor true false)] [(Ty.int IntKind.i64, Md.bor false true)] (resL ([]) Try.f112) (codeOf Try.f112) ⟨op, a, b, ()⟩ = term_Do_p nf  op a b := by kernel_rfl
  exact h
def term_Do_F (nf : Nat) (x : denPs [.val (.int .i64) (.bor true false), .val (.int .i64) (.bor true false), .val (.int .i64) (.bor true false)]) : Option (denL [(.int .i64, .bor false true)]) := term_Do_f nf x.1 x.2.1 x.2.2.1
def term_Do_C (nf : Nat) : Contract := ⟨[.val (.int .i64) (.bor true false), .val (.int .i64) (.bor true false), .val (.int .i64) (.bor true false)], [(.int .i64, .bor false true)], term_Do_F nf, []⟩
theorem term_Do_ok : FnOK Try.prog 112 := ⟨Try.f112, codeOf Try.f112, Try.func112, by kernel_rfl, by kernel_rfl⟩
theorem term_Do_holds (nf : Nat) : Contract.Holds Try.prog 112 (term_Do_C nf) :=
  fn_holds (Φ := term_Do_phi nf) (keep := term_Do_keep) (n := nf) ⟨tabs.1, tabs.2, ctx_nil, mixed, bk_ok bkls rfl⟩ (fn := Try.f112) ⟨Try.func112, by kernel_rfl, by kernel_rfl, by kernel_rfl⟩ (fun x => term_Do_eq nf x.1 x.2.1 x.2.2.1)

/-! codemason known.makes -/
def known_makes_phi (nf : Nat) : Nat → Option Contract := lookC [(112, term_Do_C nf)]
def known_makes_keep : Nat → List Nat := lookK []
def known_makes_p (nf : Nat)  (s : Int × Int × Int × Int × Int × Unit) (v : List Int) : Option (Int × Unit) :=
  bif s.fst == 1 then
    some ((s.snd.snd.snd.snd.fst, ()))
  else
    bif s.fst == 2 then
      bif inb s.snd.snd.snd.snd.fst v.length then
        some ((v.getD (Int.toNat s.snd.snd.snd.snd.fst) 0, ()))
      else
        none
    else
      bif inb s.snd.snd.fst v.length then
        bif inb s.snd.snd.snd.fst v.length then
          bif s.fst == 5 then
            bif v.getD (Int.toNat s.snd.snd.fst) 0 == 0 then
              some ((0, ()))
            else
              bif v.getD (Int.toNat s.snd.snd.snd.fst) 0 == 0 then
                some ((0, ()))
              else
                bif v.getD (Int.toNat s.snd.snd.fst) 0 == (-1) then
                  some ((-1, ()))
                else
                  bif v.getD (Int.toNat s.snd.snd.snd.fst) 0 == (-1) then
                    some ((-1, ()))
                  else
                    Option.bind (term_Do_f nf s.fst (v.getD (Int.toNat s.snd.snd.fst) 0) (v.getD (Int.toNat s.snd.snd.snd.fst) 0)) fun r =>
                    some ((r.fst, ()))
          else
            bif v.getD (Int.toNat s.snd.snd.fst) 0 == (-1) then
              some ((-1, ()))
            else
              bif v.getD (Int.toNat s.snd.snd.snd.fst) 0 == (-1) then
                some ((-1, ()))
              else
                Option.bind (term_Do_f nf s.fst (v.getD (Int.toNat s.snd.snd.fst) 0) (v.getD (Int.toNat s.snd.snd.snd.fst) 0)) fun r2 =>
                some ((r2.fst, ()))
        else
          none
      else
        none
def known_makes_f (nf : Nat) (s : Int × Int × Int × Int × Int × Unit) (v : List Int) : Option (Int × Unit) := known_makes_p nf  s v
theorem known_makes_eq (nf : Nat) (s : Int × Int × Int × Int × Int × Unit) (v : List Int) : runF tab (known_makes_phi nf) known_makes_keep nf [PT.val tI5fn1 (Md.bor true false), PT.val (Ty.int IntKind.i64).sl (Md.bor true false)] [(Ty.int IntKind.i64, Md.bor false true)] (resL ([]) Try.f89) (codeOf Try.f89) ⟨s, v, ()⟩ = known_makes_f nf s v := by
  have h : runF tab (known_makes_phi nf) known_makes_keep nf [PT.val tI5fn1 (Md.bor true false), PT.val (Ty.int IntKind.i64).sl (Md.bor true false)] [(Ty.int IntKind.i64, Md.bor false true)] (resL ([]) Try.f89) (codeOf Try.f89) ⟨s, v, ()⟩ = known_makes_p nf  s v := by kernel_rfl
  exact h
def known_makes_F (nf : Nat) (x : denPs [.val tI5fn1 (.bor true false), .val (.sl (.int .i64)) (.bor true false)]) : Option (denL [(.int .i64, .bor false true)]) := known_makes_f nf x.1 x.2.1
def known_makes_C (nf : Nat) : Contract := ⟨[.val tI5fn1 (.bor true false), .val (.sl (.int .i64)) (.bor true false)], [(.int .i64, .bor false true)], known_makes_F nf, []⟩
theorem known_makes_ok : FnOK Try.prog 89 := ⟨Try.f89, codeOf Try.f89, Try.func89, by kernel_rfl, by kernel_rfl⟩
theorem known_makes_holds (nf : Nat) : Contract.Holds Try.prog 89 (known_makes_C nf) :=
  fn_holds (Φ := known_makes_phi nf) (keep := known_makes_keep) (n := nf) ⟨tabs.1, tabs.2, (ctx_cons term_Do_ok (term_Do_holds nf) ctx_nil), mixed, bk_ok bkls rfl⟩ (fn := Try.f89) ⟨Try.func89, by kernel_rfl, by kernel_rfl, by kernel_rfl⟩ (fun x => known_makes_eq nf x.1 x.2.1)

/-! codemason known.behind -/
def known_behind_phi (nf : Nat) : Nat → Option Contract := lookC [(88, slices_Clone_C nf), (89, known_makes_C nf)]
def known_behind_keep : Nat → List Nat := lookK [(0, [0, 1, 2, 9, 10, 11, 12, 13])]
def known_behind_b0 (nf : Nat) (b : TStfn1 × Int × Int × Int × Unit) (g0 : List Int → TStfn1 × Int × Int × Int × Unit → Int → Option (List Int × List Int × Unit)) (v2 : List Int) (b2 : TStfn1 × Int × Int × Int × Unit) (t13 : Int) : Option (List Int × List Int × Unit) :=
  bif decide (t13 < (↑(List.length b.fst) : Int)) then
    bif inb t13 (List.length b.fst) then
      Option.bind (known_makes_f nf (List.getD b.fst t13.toNat (0, 0, 0, 0, 0, ())) v2) fun r2 =>
      bif inb (List.getD b.fst t13.toNat (0, 0, 0, 0, 0, ())).snd.fst v2.length then
        g0 (v2.set (Int.toNat (List.getD b.fst t13.toNat (0, 0, 0, 0, 0, ())).snd.fst) r2.fst) b2 (IntKind.i64.wrap (t13 + 1))
      else
        none
    else
      none
  else
    bif decide (b2.snd.fst < 0) then
      bif decide (b2.snd.snd.fst < 0) then
        some ((v2, [], ()))
      else
        bif decide (b2.snd.fst < 0) then
          both (some ((v2, [b2.snd.snd.fst], ()))) (some ((v2, [b2.snd.snd.fst], ())))
        else
          bif inb b2.snd.fst v2.length then
            bif decide (v2.getD (Int.toNat b2.snd.fst) 0 > 0) then
              both (some ((v2, [b2.snd.snd.fst], ()))) (some ((v2, [b2.snd.snd.fst], ())))
            else
              bif inb b2.snd.fst v2.length then
                bif v2.getD (Int.toNat b2.snd.fst) 0 == 0 then
                  both (some ((v2, [b2.snd.snd.snd.fst], ()))) (some ((v2, [b2.snd.snd.snd.fst], ())))
                else
                  both (some ((v2, [b2.snd.snd.fst, b2.snd.snd.snd.fst], ()))) (some ((v2, [b2.snd.snd.fst, b2.snd.snd.snd.fst], ())))
              else
                none
          else
            none
    else
      bif decide (b2.snd.fst < 0) then
        both (some ((v2, [b2.snd.snd.fst], ()))) (some ((v2, [b2.snd.snd.fst], ())))
      else
        bif inb b2.snd.fst v2.length then
          bif decide (v2.getD (Int.toNat b2.snd.fst) 0 > 0) then
            both (some ((v2, [b2.snd.snd.fst], ()))) (some ((v2, [b2.snd.snd.fst], ())))
          else
            bif inb b2.snd.fst v2.length then
              bif v2.getD (Int.toNat b2.snd.fst) 0 == 0 then
                both (some ((v2, [b2.snd.snd.snd.fst], ()))) (some ((v2, [b2.snd.snd.snd.fst], ())))
              else
                both (some ((v2, [b2.snd.snd.fst, b2.snd.snd.snd.fst], ()))) (some ((v2, [b2.snd.snd.fst, b2.snd.snd.snd.fst], ())))
            else
              none
        else
          none
def known_behind_p (nf : Nat) (l0 : TStfn1 × Int × Int × Int × Unit → List Int → TStfn1 × Int × Int × Int × Unit → Int → Option (List Int × List Int × Unit)) (b : TStfn1 × Int × Int × Int × Unit) (v : List Int) : Option (List Int × List Int × Unit) :=
  Option.bind (slices_Clone_f nf v) fun r =>
  l0 b r.fst b 0
def known_behind_l0 (nf : Nat) (b : TStfn1 × Int × Int × Int × Unit) : Nat → List Int → TStfn1 × Int × Int × Int × Unit → Int → Option (List Int × List Int × Unit)
  | 0, _, _, _ => none
  | fu + 1, v2, b2, t13 => known_behind_b0 nf  b  (known_behind_l0 nf b  fu) v2 b2 t13
def known_behind_f (nf : Nat) (b : TStfn1 × Int × Int × Int × Unit) (v : List Int) : Option (List Int × List Int × Unit) := known_behind_p nf (fun p0 v0 v1 v2 => known_behind_l0 nf p0 nf v0 v1 v2) b v
noncomputable def known_behind_L0 (nf : Nat) : LC (List Int × List Int × Unit) := theL (findL tab (known_behind_phi nf) (fun _ F => iter nf F) known_behind_keep 0 0 (codeOf Try.f86) (fin tab [((Ty.int IntKind.i64).sl, Md.own false (Md.bor false false)), ((Ty.int IntKind.i64).sl, Md.own false (Md.bor false false))] (resL ([]) Try.f86)) (fun _ _ => none) (fin tab [((Ty.int IntKind.i64).sl, Md.own false (Md.bor false false)), ((Ty.int IntKind.i64).sl, Md.own false (Md.bor false false))] (resL ([]) Try.f86)))
def known_behind_m0 (b : TStfn1 × Int × Int × Int × Unit) (v2 : List Int) (b2 : TStfn1 × Int × Int × Int × Unit) (t13 : Int) : St := ⟨fresh, [(0, AV.v (tI5fn1.sl.pair ((Ty.int IntKind.i64).pair tI2fn1)) (Md.bor true false) b), (1, AV.ow 500001 (Ty.int IntKind.i64).sl (Md.own false (Md.bor false false)) v2), (2, AV.box 2 500002 (tI5fn1.sl.pair ((Ty.int IntKind.i64).pair tI2fn1)) (Md.bor true false) b2), (9, AV.dead), (10, AV.pl 2 2 [Stp.dr, Stp.fld 0]), (11, AV.v tI5fn1.sl (Md.bor true false) b.fst), (12, AV.v (Ty.int IntKind.i64) (Md.bor false true) (↑(List.length b.fst) : Int)), (13, AV.v (Ty.int IntKind.i64) (Md.bor false true) t13)]⟩
theorem known_behind_h0 (nf : Nat)  (b : TStfn1 × Int × Int × Int × Unit) (fu : Nat) (v2 : List Int) (b2 : TStfn1 × Int × Int × Int × Unit) (t13 : Int) : iter (fu + 1) (LC.F tab (known_behind_phi nf) (fun _ F => iter nf F) known_behind_keep 0 (known_behind_L0 nf )) (known_behind_m0 b v2 b2 t13) = known_behind_b0 nf  b  (fun v2 b2 t13 => iter fu (LC.F tab (known_behind_phi nf) (fun _ F => iter nf F) known_behind_keep 0 (known_behind_L0 nf )) (known_behind_m0 b v2 b2 t13)) v2 b2 t13 := by kernel_rfl
theorem known_behind_e0 (nf : Nat)  (b : TStfn1 × Int × Int × Int × Unit) : ∀ (fu : Nat) (v2 : List Int) (b2 : TStfn1 × Int × Int × Int × Unit) (t13 : Int), iter fu (LC.F tab (known_behind_phi nf) (fun _ F => iter nf F) known_behind_keep 0 (known_behind_L0 nf )) (known_behind_m0 b v2 b2 t13) = known_behind_l0 nf b  fu v2 b2 t13 := by
  intro fu
  induction fu with
  | zero => intros; rfl
  | succ fu ih =>
    intro v2 b2 t13
    rw [known_behind_h0 nf  b fu v2 b2 t13]
    simp only [ih]
    rfl
theorem known_behind_eq (nf : Nat) (b : TStfn1 × Int × Int × Int × Unit) (v : List Int) : runF tab (known_behind_phi nf) known_behind_keep nf [PT.val (tI5fn1.sl.pair ((Ty.int IntKind.i64).pair tI2fn1)) (Md.bor true false), PT.val (Ty.int IntKind.i64).sl (Md.bor true false)] [((Ty.int IntKind.i64).sl, Md.own false (Md.bor false false)), ((Ty.int IntKind.i64).sl, Md.own false (Md.bor false false))] (resL ([]) Try.f86) (codeOf Try.f86) ⟨b, v, ()⟩ = known_behind_f nf b v := by
  have h : runF tab (known_behind_phi nf) known_behind_keep nf [PT.val (tI5fn1.sl.pair ((Ty.int IntKind.i64).pair tI2fn1)) (Md.bor true false), PT.val (Ty.int IntKind.i64).sl (Md.bor true false)] [((Ty.int IntKind.i64).sl, Md.own false (Md.bor false false)), ((Ty.int IntKind.i64).sl, Md.own false (Md.bor false false))] (resL ([]) Try.f86) (codeOf Try.f86) ⟨b, v, ()⟩ = known_behind_p nf (fun p0 v0 v1 v2 => iter nf (LC.F tab (known_behind_phi nf) (fun _ F => iter nf F) known_behind_keep 0 (known_behind_L0 nf)) (known_behind_m0 p0 v0 v1 v2)) b v := by kernel_rfl
  rw [h]
  simp only [known_behind_e0]
  rfl
def known_behind_F (nf : Nat) (x : denPs [.val (.pair (.sl tI5fn1) tI3fn1) (.bor true false), .val (.sl (.int .i64)) (.bor true false)]) : Option (denL [(.sl (.int .i64), .own false (.bor false false)), (.sl (.int .i64), .own false (.bor false false))]) := known_behind_f nf x.1 x.2.1
def known_behind_C (nf : Nat) : Contract := ⟨[.val (.pair (.sl tI5fn1) tI3fn1) (.bor true false), .val (.sl (.int .i64)) (.bor true false)], [(.sl (.int .i64), .own false (.bor false false)), (.sl (.int .i64), .own false (.bor false false))], known_behind_F nf, []⟩
theorem known_behind_ok : FnOK Try.prog 86 := ⟨Try.f86, codeOf Try.f86, Try.func86, by kernel_rfl, by kernel_rfl⟩
theorem known_behind_holds (nf : Nat) : Contract.Holds Try.prog 86 (known_behind_C nf) :=
  fn_holds (Φ := known_behind_phi nf) (keep := known_behind_keep) (n := nf) ⟨tabs.1, tabs.2, (ctx_cons slices_Clone_ok (slices_Clone_holds nf) (ctx_cons known_makes_ok (known_makes_holds nf) ctx_nil)), mixed, bk_ok bkls rfl⟩ (fn := Try.f86) ⟨Try.func86, by kernel_rfl, by kernel_rfl, by kernel_rfl⟩ (fun x => known_behind_eq nf x.1 x.2.1)

/-! codemason known.solve -/
def known_solve_tab : Tab := ⟨lookT tyL, lookM ([(26, .own false (.own true (.bor false true)))] ++ mdL), hasT [185], hasT [9, 10, 11], fun _ => none, lookB bkl⟩
theorem known_solve_tabs : TabOK Try.prog known_solve_tab ∧ EqOK Try.prog known_solve_tab := tab_ok (by kernel_rfl) (by kernel_rfl)
def known_solve_phi (nf : Nat) : Nat → Option Contract := lookC [(86, known_behind_C nf), (88, slices_Clone_C nf)]
def known_solve_keep : Nat → List Nat := lookK [(6, [0, 5, 6, 9, 10, 12, 17, 23, 24, 25, 35, 41, 42, 43, 44, 45, 46, 60, 61, 62]), (4, [0, 5, 6, 9, 10, 17, 23, 24, 25, 35, 41, 42, 43, 44, 45, 46]), (2, [0, 5, 6, 17, 23, 24, 25]), (0, [0, 5, 6, 17])]
def known_solve_b0 (nf : Nat) (l2 : TBlfn1 → List (List Int) → Bool → Int → Option (List (List Int) × Unit)) (p : TBlfn1) (g0 : List (List Int) → Bool → Option (List (List Int) × Unit)) (in' : List (List Int)) (again : Bool) : Option (List (List Int) × Unit) :=
  bif again then
    l2 p in' false 0
  else
    some ((in', ()))
def known_solve_b2 (nf : Nat) (l4 : TBlfn1 → Int → List Int × List Int × Unit → List (List Int) → Bool → List Int → List Int → Int → Option (List (List Int) × Unit)) (p : TBlfn1) (g0 : List (List Int) → Bool → Option (List (List Int) × Unit)) (g2 : List (List Int) → Bool → Int → Option (List (List Int) × Unit)) (in'2 : List (List Int)) (again2 : Bool) (t25 : Int) : Option (List (List Int) × Unit) :=
  bif decide (t25 < (↑p.length : Int)) then
    bif inb t25 p.length then
      bif inb t25 in'2.length then
        bif List.isEmpty (in'2.getD t25.toNat []) then
          g2 in'2 again2 (IntKind.i64.wrap (t25 + 1))
        else
          bif inb t25 in'2.length then
            Option.bind (known_behind_f nf (p.getD t25.toNat ([], 0, 0, 0, ())) (in'2.getD t25.toNat [])) fun r2 =>
            both (both (l4 p t25 r2 in'2 again2 r2.fst r2.snd.fst 0) (l4 p t25 r2 in'2 again2 r2.fst r2.snd.fst 0)) (l4 p t25 r2 in'2 again2 r2.fst r2.snd.fst 0)
          else
            none
      else
        none
    else
      none
  else
    g0 in'2 again2
def known_solve_b4 (nf : Nat) (l6 : TBlfn1 → List Int → Int → Int → List Int × List Int × Unit → List Int → List (List Int) → Bool → List Int → List Int → Int → Option (List (List Int) × Unit)) (p : TBlfn1) (t25 : Int) (r2 : List Int × List Int × Unit) (g2 : List (List Int) → Bool → Int → Option (List (List Int) × Unit)) (g0 : List (List Int) → Bool → Option (List (List Int) × Unit)) (g4 : List (List Int) → Bool → List Int → List Int → Int → Option (List (List Int) × Unit)) (in'3 : List (List Int)) (again3 : Bool) (v : List Int) (to' : List Int) (t46 : Int) : Option (List (List Int) × Unit) :=
  bif decide (t46 < (↑(List.length r2.snd.fst) : Int)) then
    bif inb t46 to'.length then
      bif inb (to'.getD t46.toNat 0) in'3.length then
        bif List.isEmpty (in'3.getD (Int.toNat (to'.getD t46.toNat 0)) []) then
          Option.bind (slices_Clone_f nf v) fun r3 =>
          bif inb (to'.getD t46.toNat 0) in'3.length then
            bif !List.isEmpty r3.fst then
              l6 p to' t46 t25 r2 v (in'3.set (Int.toNat (to'.getD t46.toNat 0)) r3.fst) true v to' 0
            else
              none
          else
            none
        else
          l6 p to' t46 t25 r2 v in'3 again3 v to' 0
      else
        none
    else
      none
  else
    g2 in'3 again3 (IntKind.i64.wrap (t25 + 1))
def known_solve_b6 (nf : Nat) (p : TBlfn1) (to' : List Int) (t46 : Int) (t25 : Int) (r2 : List Int × List Int × Unit) (v : List Int) (g4 : List (List Int) → Bool → List Int → List Int → Int → Option (List (List Int) × Unit)) (g2 : List (List Int) → Bool → Int → Option (List (List Int) × Unit)) (g0 : List (List Int) → Bool → Option (List (List Int) × Unit)) (g6 : List (List Int) → Bool → List Int → List Int → Int → Option (List (List Int) × Unit)) (in'4 : List (List Int)) (again4 : Bool) (v2 : List Int) (to'2 : List Int) (t62 : Int) : Option (List (List Int) × Unit) :=
  bif decide (t62 < (↑v.length : Int)) then
    bif inb t62 v2.length then
      bif inb (to'.getD t46.toNat 0) in'4.length then
        bif inb t62 (List.length (in'4.getD (Int.toNat (to'.getD t46.toNat 0)) [])) then
          bif List.getD (in'4.getD (Int.toNat (to'.getD t46.toNat 0)) []) t62.toNat 0 != v2.getD t62.toNat 0 then
            bif inb (to'.getD t46.toNat 0) in'4.length then
              bif inb t62 (List.length (in'4.getD (Int.toNat (to'.getD t46.toNat 0)) [])) then
                bif List.getD (in'4.getD (Int.toNat (to'.getD t46.toNat 0)) []) t62.toNat 0 != (-1) then
                  bif inb (to'.getD t46.toNat 0) in'4.length then
                    bif inb t62 (List.length (in'4.getD (Int.toNat (to'.getD t46.toNat 0)) [])) then
                      g6 (in'4.set (Int.toNat (to'.getD t46.toNat 0)) (List.set (in'4.getD (Int.toNat (to'.getD t46.toNat 0)) []) t62.toNat (-1))) true v2 to'2 (IntKind.i64.wrap (t62 + 1))
                    else
                      none
                  else
                    none
                else
                  g6 in'4 again4 v2 to'2 (IntKind.i64.wrap (t62 + 1))
              else
                none
            else
              none
          else
            g6 in'4 again4 v2 to'2 (IntKind.i64.wrap (t62 + 1))
        else
          none
      else
        none
    else
      none
  else
    g4 in'4 again4 v2 to'2 (IntKind.i64.wrap (t46 + 1))
def known_solve_p (nf : Nat) (l0 : TBlfn1 → List (List Int) → Bool → Option (List (List Int) × Unit)) (p : TBlfn1) (have' : List Int) : Option (List (List Int) × Unit) :=
  bif decide (0 ≤ (↑p.length : Int)) && decide ((↑p.length : Int) ≤ (↑p.length : Int)) && decide ((↑p.length : Int) ≤ (↑lim : Int)) then
    Option.bind (slices_Clone_f nf have') fun r =>
    bif inb 0 (List.replicate (↑p.length : Int).toNat ([] : List Int)).length then
      bif !List.isEmpty r.fst then
        l0 p ((List.replicate (↑p.length : Int).toNat []).set 0 r.fst) true
      else
        none
    else
      none
  else
    none
def known_solve_l6 (nf : Nat) (p : TBlfn1) (to' : List Int) (t46 : Int) (t25 : Int) (r2 : List Int × List Int × Unit) (v : List Int) (g4 : List (List Int) → Bool → List Int → List Int → Int → Option (List (List Int) × Unit)) (g2 : List (List Int) → Bool → Int → Option (List (List Int) × Unit)) (g0 : List (List Int) → Bool → Option (List (List Int) × Unit)) : Nat → List (List Int) → Bool → List Int → List Int → Int → Option (List (List Int) × Unit)
  | 0, _, _, _, _, _ => none
  | fu + 1, in'4, again4, v2, to'2, t62 => known_solve_b6 nf  p to' t46 t25 r2 v g4 g2 g0 (known_solve_l6 nf p to' t46 t25 r2 v g4 g2 g0 fu) in'4 again4 v2 to'2 t62
def known_solve_l4 (nf : Nat) (p : TBlfn1) (t25 : Int) (r2 : List Int × List Int × Unit) (g2 : List (List Int) → Bool → Int → Option (List (List Int) × Unit)) (g0 : List (List Int) → Bool → Option (List (List Int) × Unit)) : Nat → List (List Int) → Bool → List Int → List Int → Int → Option (List (List Int) × Unit)
  | 0, _, _, _, _, _ => none
  | fu + 1, in'3, again3, v, to', t46 => known_solve_b4 nf (fun _ p1 p2 _ _ p5 v0 v1 v2 v3 v4 => known_solve_l6 nf p p1 p2 t25 r2 p5 (fun in'3 again3 v to' t46 => known_solve_l4 nf p t25 r2 g2 g0 fu in'3 again3 v to' t46) g2 g0 nf v0 v1 v2 v3 v4) p t25 r2 g2 g0 (known_solve_l4 nf p t25 r2 g2 g0 fu) in'3 again3 v to' t46
def known_solve_l2 (nf : Nat) (p : TBlfn1) (g0 : List (List Int) → Bool → Option (List (List Int) × Unit)) : Nat → List (List Int) → Bool → Int → Option (List (List Int) × Unit)
  | 0, _, _, _ => none
  | fu + 1, in'2, again2, t25 => known_solve_b2 nf (fun _ p1 p2 v0 v1 v2 v3 v4 => known_solve_l4 nf p p1 p2 (fun in'2 again2 t25 => known_solve_l2 nf p g0 fu in'2 again2 t25) g0 nf v0 v1 v2 v3 v4) p g0 (known_solve_l2 nf p g0 fu) in'2 again2 t25
def known_solve_l0 (nf : Nat) (p : TBlfn1) : Nat → List (List Int) → Bool → Option (List (List Int) × Unit)
  | 0, _, _ => none
  | fu + 1, in', again => known_solve_b0 nf (fun _ v0 v1 v2 => known_solve_l2 nf p (fun in' again => known_solve_l0 nf p  fu in' again) nf v0 v1 v2) p  (known_solve_l0 nf p  fu) in' again
def known_solve_f (nf : Nat) (p : TBlfn1) (have' : List Int) : Option (List (List Int) × Unit) := known_solve_p nf (fun p0 v0 v1 => known_solve_l0 nf p0 nf v0 v1) p have'
noncomputable def known_solve_L0 (nf : Nat) : LC (List (List Int) × Unit) := theL (findL known_solve_tab (known_solve_phi nf) (fun _ F => iter nf F) known_solve_keep 0 0 (codeOf Try.f82) (fin known_solve_tab [((Ty.int IntKind.i64).sl.sl, Md.own false (Md.own true (Md.bor false true)))] (resL ([]) Try.f82)) (fun _ _ => none) (fin known_solve_tab [((Ty.int IntKind.i64).sl.sl, Md.own false (Md.own true (Md.bor false true)))] (resL ([]) Try.f82)))
def known_solve_m0 (p : TBlfn1) (in' : List (List Int)) (again : Bool) : St := ⟨fresh, [(0, AV.v (tI5fn1.sl.pair ((Ty.int IntKind.i64).pair tI2fn1)).sl (Md.bor true false) p), (5, AV.ow 500005 (Ty.int IntKind.i64).sl.sl (Md.own false (Md.own true (Md.bor false true))) in'), (6, AV.v Ty.bool (Md.bor false true) again), (17, AV.dead)]⟩
noncomputable def known_solve_L2 (nf : Nat) (G0 : St → Option (List (List Int) × Unit)) : LC (List (List Int) × Unit) := theL (findL known_solve_tab (known_solve_phi nf) (fun _ F => iter nf F) known_solve_keep 2 0 (known_solve_L0 nf ).c (fun st => norm (known_solve_keep 0) st G0) (known_solve_L0 nf ).Kx (known_solve_L0 nf ).Kr)
def known_solve_m2 (p : TBlfn1) (in'2 : List (List Int)) (again2 : Bool) (t25 : Int) : St := ⟨fresh, [(0, AV.v (tI5fn1.sl.pair ((Ty.int IntKind.i64).pair tI2fn1)).sl (Md.bor true false) p), (5, AV.ow 500005 (Ty.int IntKind.i64).sl.sl (Md.own false (Md.own true (Md.bor false true))) in'2), (6, AV.v Ty.bool (Md.bor false true) again2), (17, AV.dead), (23, AV.v (tI5fn1.sl.pair ((Ty.int IntKind.i64).pair tI2fn1)).sl (Md.bor true false) p), (24, AV.v (Ty.int IntKind.i64) (Md.bor false true) (↑p.length : Int)), (25, AV.v (Ty.int IntKind.i64) (Md.bor false true) t25)]⟩
noncomputable def known_solve_L4 (nf : Nat) (G0 : St → Option (List (List Int) × Unit)) (G2 : St → Option (List (List Int) × Unit)) : LC (List (List Int) × Unit) := theL (findL known_solve_tab (known_solve_phi nf) (fun _ F => iter nf F) known_solve_keep 4 2 (known_solve_L2 nf G0).c (fun st => norm (known_solve_keep 2) st G2) (known_solve_L2 nf G0).Kx (known_solve_L2 nf G0).Kr)
def known_solve_m4 (p : TBlfn1) (t25 : Int) (r2 : List Int × List Int × Unit) (in'3 : List (List Int)) (again3 : Bool) (v : List Int) (to' : List Int) (t46 : Int) : St := ⟨fresh, [(0, AV.v (tI5fn1.sl.pair ((Ty.int IntKind.i64).pair tI2fn1)).sl (Md.bor true false) p), (5, AV.ow 500005 (Ty.int IntKind.i64).sl.sl (Md.own false (Md.own true (Md.bor false true))) in'3), (6, AV.v Ty.bool (Md.bor false true) again3), (9, AV.ow 500009 (Ty.int IntKind.i64).sl (Md.own false (Md.bor false false)) v), (10, AV.ow 500010 (Ty.int IntKind.i64).sl (Md.own false (Md.bor false false)) to'), (17, AV.dead), (23, AV.v (tI5fn1.sl.pair ((Ty.int IntKind.i64).pair tI2fn1)).sl (Md.bor true false) p), (24, AV.v (Ty.int IntKind.i64) (Md.bor false true) (↑p.length : Int)), (25, AV.v (Ty.int IntKind.i64) (Md.bor false true) t25), (35, AV.dead), (41, AV.dead), (42, AV.dead), (43, AV.dead), (44, AV.al 10 500010 []), (45, AV.v (Ty.int IntKind.i64) (Md.bor false true) (↑(List.length r2.snd.fst) : Int)), (46, AV.v (Ty.int IntKind.i64) (Md.bor false true) t46)]⟩
noncomputable def known_solve_L6 (nf : Nat) (G0 : St → Option (List (List Int) × Unit)) (G2 : St → Option (List (List Int) × Unit)) (G4 : St → Option (List (List Int) × Unit)) : LC (List (List Int) × Unit) := theL (findL known_solve_tab (known_solve_phi nf) (fun _ F => iter nf F) known_solve_keep 6 4 (known_solve_L4 nf G0 G2).c (fun st => norm (known_solve_keep 4) st G4) (known_solve_L4 nf G0 G2).Kx (known_solve_L4 nf G0 G2).Kr)
def known_solve_m6 (p : TBlfn1) (to' : List Int) (t46 : Int) (t25 : Int) (r2 : List Int × List Int × Unit) (v : List Int) (in'4 : List (List Int)) (again4 : Bool) (v2 : List Int) (to'2 : List Int) (t62 : Int) : St := ⟨fresh, [(0, AV.v (tI5fn1.sl.pair ((Ty.int IntKind.i64).pair tI2fn1)).sl (Md.bor true false) p), (5, AV.ow 500005 (Ty.int IntKind.i64).sl.sl (Md.own false (Md.own true (Md.bor false true))) in'4), (6, AV.v Ty.bool (Md.bor false true) again4), (9, AV.ow 500009 (Ty.int IntKind.i64).sl (Md.own false (Md.bor false false)) v2), (10, AV.ow 500010 (Ty.int IntKind.i64).sl (Md.own false (Md.bor false false)) to'2), (12, AV.v (Ty.int IntKind.i64) (Md.bor false true) (to'.getD t46.toNat 0)), (17, AV.dead), (23, AV.v (tI5fn1.sl.pair ((Ty.int IntKind.i64).pair tI2fn1)).sl (Md.bor true false) p), (24, AV.v (Ty.int IntKind.i64) (Md.bor false true) (↑p.length : Int)), (25, AV.v (Ty.int IntKind.i64) (Md.bor false true) t25), (35, AV.dead), (41, AV.dead), (42, AV.dead), (43, AV.dead), (44, AV.al 10 500010 []), (45, AV.v (Ty.int IntKind.i64) (Md.bor false true) (↑(List.length r2.snd.fst) : Int)), (46, AV.v (Ty.int IntKind.i64) (Md.bor false true) t46), (60, AV.al 9 500009 []), (61, AV.v (Ty.int IntKind.i64) (Md.bor false true) (↑v.length : Int)), (62, AV.v (Ty.int IntKind.i64) (Md.bor false true) t62)]⟩
theorem known_solve_h6 (nf : Nat) (G0 : St → Option (List (List Int) × Unit)) (G2 : St → Option (List (List Int) × Unit)) (G4 : St → Option (List (List Int) × Unit)) (p : TBlfn1) (to' : List Int) (t46 : Int) (t25 : Int) (r2 : List Int × List Int × Unit) (v : List Int) (fu : Nat) (in'4 : List (List Int)) (again4 : Bool) (v2 : List Int) (to'2 : List Int) (t62 : Int) : iter (fu + 1) (LC.F known_solve_tab (known_solve_phi nf) (fun _ F => iter nf F) known_solve_keep 6 (known_solve_L6 nf G0 G2 G4)) (known_solve_m6 p to' t46 t25 r2 v in'4 again4 v2 to'2 t62) = known_solve_b6 nf  p to' t46 t25 r2 v (fun in'3 again3 v to' t46 => G4 (known_solve_m4 p t25 r2 in'3 again3 v to' t46)) (fun in'2 again2 t25 => G2 (known_solve_m2 p in'2 again2 t25)) (fun in' again => G0 (known_solve_m0 p in' again)) (fun in'4 again4 v2 to'2 t62 => iter fu (LC.F known_solve_tab (known_solve_phi nf) (fun _ F => iter nf F) known_solve_keep 6 (known_solve_L6 nf G0 G2 G4)) (known_solve_m6 p to' t46 t25 r2 v in'4 again4 v2 to'2 t62)) in'4 again4 v2 to'2 t62 := by kernel_rfl
theorem known_solve_e6 (nf : Nat) (G0 : St → Option (List (List Int) × Unit)) (G2 : St → Option (List (List Int) × Unit)) (G4 : St → Option (List (List Int) × Unit)) (p : TBlfn1) (to' : List Int) (t46 : Int) (t25 : Int) (r2 : List Int × List Int × Unit) (v : List Int) : ∀ (fu : Nat) (in'4 : List (List Int)) (again4 : Bool) (v2 : List Int) (to'2 : List Int) (t62 : Int), iter fu (LC.F known_solve_tab (known_solve_phi nf) (fun _ F => iter nf F) known_solve_keep 6 (known_solve_L6 nf G0 G2 G4)) (known_solve_m6 p to' t46 t25 r2 v in'4 again4 v2 to'2 t62) = known_solve_l6 nf p to' t46 t25 r2 v (fun in'3 again3 v to' t46 => G4 (known_solve_m4 p t25 r2 in'3 again3 v to' t46)) (fun in'2 again2 t25 => G2 (known_solve_m2 p in'2 again2 t25)) (fun in' again => G0 (known_solve_m0 p in' again)) fu in'4 again4 v2 to'2 t62 := by
  intro fu
  induction fu with
  | zero => intros; rfl
  | succ fu ih =>
    intro in'4 again4 v2 to'2 t62
    rw [known_solve_h6 nf G0 G2 G4 p to' t46 t25 r2 v fu in'4 again4 v2 to'2 t62]
    simp only [ih]
    rfl
theorem known_solve_h4 (nf : Nat) (G0 : St → Option (List (List Int) × Unit)) (G2 : St → Option (List (List Int) × Unit)) (p : TBlfn1) (t25 : Int) (r2 : List Int × List Int × Unit) (fu : Nat) (in'3 : List (List Int)) (again3 : Bool) (v : List Int) (to' : List Int) (t46 : Int) : iter (fu + 1) (LC.F known_solve_tab (known_solve_phi nf) (fun _ F => iter nf F) known_solve_keep 4 (known_solve_L4 nf G0 G2)) (known_solve_m4 p t25 r2 in'3 again3 v to' t46) = known_solve_b4 nf (fun _ p1 p2 _ _ p5 v0 v1 v2 v3 v4 => iter nf (LC.F known_solve_tab (known_solve_phi nf) (fun _ F => iter nf F) known_solve_keep 6 (known_solve_L6 nf G0 G2 (iter fu (LC.F known_solve_tab (known_solve_phi nf) (fun _ F => iter nf F) known_solve_keep 4 (known_solve_L4 nf G0 G2))))) (known_solve_m6 p p1 p2 t25 r2 p5 v0 v1 v2 v3 v4)) p t25 r2 (fun in'2 again2 t25 => G2 (known_solve_m2 p in'2 again2 t25)) (fun in' again => G0 (known_solve_m0 p in' again)) (fun in'3 again3 v to' t46 => iter fu (LC.F known_solve_tab (known_solve_phi nf) (fun _ F => iter nf F) known_solve_keep 4 (known_solve_L4 nf G0 G2)) (known_solve_m4 p t25 r2 in'3 again3 v to' t46)) in'3 again3 v to' t46 := by kernel_rfl
theorem known_solve_e4 (nf : Nat) (G0 : St → Option (List (List Int) × Unit)) (G2 : St → Option (List (List Int) × Unit)) (p : TBlfn1) (t25 : Int) (r2 : List Int × List Int × Unit) : ∀ (fu : Nat) (in'3 : List (List Int)) (again3 : Bool) (v : List Int) (to' : List Int) (t46 : Int), iter fu (LC.F known_solve_tab (known_solve_phi nf) (fun _ F => iter nf F) known_solve_keep 4 (known_solve_L4 nf G0 G2)) (known_solve_m4 p t25 r2 in'3 again3 v to' t46) = known_solve_l4 nf p t25 r2 (fun in'2 again2 t25 => G2 (known_solve_m2 p in'2 again2 t25)) (fun in' again => G0 (known_solve_m0 p in' again)) fu in'3 again3 v to' t46 := by
  intro fu
  induction fu with
  | zero => intros; rfl
  | succ fu ih =>
    intro in'3 again3 v to' t46
    rw [known_solve_h4 nf G0 G2 p t25 r2 fu in'3 again3 v to' t46]
    simp only [ih, known_solve_e6]
    rfl
theorem known_solve_h2 (nf : Nat) (G0 : St → Option (List (List Int) × Unit)) (p : TBlfn1) (fu : Nat) (in'2 : List (List Int)) (again2 : Bool) (t25 : Int) : iter (fu + 1) (LC.F known_solve_tab (known_solve_phi nf) (fun _ F => iter nf F) known_solve_keep 2 (known_solve_L2 nf G0)) (known_solve_m2 p in'2 again2 t25) = known_solve_b2 nf (fun _ p1 p2 v0 v1 v2 v3 v4 => iter nf (LC.F known_solve_tab (known_solve_phi nf) (fun _ F => iter nf F) known_solve_keep 4 (known_solve_L4 nf G0 (iter fu (LC.F known_solve_tab (known_solve_phi nf) (fun _ F => iter nf F) known_solve_keep 2 (known_solve_L2 nf G0))))) (known_solve_m4 p p1 p2 v0 v1 v2 v3 v4)) p (fun in' again => G0 (known_solve_m0 p in' again)) (fun in'2 again2 t25 => iter fu (LC.F known_solve_tab (known_solve_phi nf) (fun _ F => iter nf F) known_solve_keep 2 (known_solve_L2 nf G0)) (known_solve_m2 p in'2 again2 t25)) in'2 again2 t25 := by kernel_rfl
theorem known_solve_e2 (nf : Nat) (G0 : St → Option (List (List Int) × Unit)) (p : TBlfn1) : ∀ (fu : Nat) (in'2 : List (List Int)) (again2 : Bool) (t25 : Int), iter fu (LC.F known_solve_tab (known_solve_phi nf) (fun _ F => iter nf F) known_solve_keep 2 (known_solve_L2 nf G0)) (known_solve_m2 p in'2 again2 t25) = known_solve_l2 nf p (fun in' again => G0 (known_solve_m0 p in' again)) fu in'2 again2 t25 := by
  intro fu
  induction fu with
  | zero => intros; rfl
  | succ fu ih =>
    intro in'2 again2 t25
    rw [known_solve_h2 nf G0 p fu in'2 again2 t25]
    simp only [ih, known_solve_e4]
    rfl
theorem known_solve_h0 (nf : Nat)  (p : TBlfn1) (fu : Nat) (in' : List (List Int)) (again : Bool) : iter (fu + 1) (LC.F known_solve_tab (known_solve_phi nf) (fun _ F => iter nf F) known_solve_keep 0 (known_solve_L0 nf )) (known_solve_m0 p in' again) = known_solve_b0 nf (fun _ v0 v1 v2 => iter nf (LC.F known_solve_tab (known_solve_phi nf) (fun _ F => iter nf F) known_solve_keep 2 (known_solve_L2 nf (iter fu (LC.F known_solve_tab (known_solve_phi nf) (fun _ F => iter nf F) known_solve_keep 0 (known_solve_L0 nf ))))) (known_solve_m2 p v0 v1 v2)) p  (fun in' again => iter fu (LC.F known_solve_tab (known_solve_phi nf) (fun _ F => iter nf F) known_solve_keep 0 (known_solve_L0 nf )) (known_solve_m0 p in' again)) in' again := by kernel_rfl
theorem known_solve_e0 (nf : Nat)  (p : TBlfn1) : ∀ (fu : Nat) (in' : List (List Int)) (again : Bool), iter fu (LC.F known_solve_tab (known_solve_phi nf) (fun _ F => iter nf F) known_solve_keep 0 (known_solve_L0 nf )) (known_solve_m0 p in' again) = known_solve_l0 nf p  fu in' again := by
  intro fu
  induction fu with
  | zero => intros; rfl
  | succ fu ih =>
    intro in' again
    rw [known_solve_h0 nf  p fu in' again]
    simp only [ih, known_solve_e2]
    rfl
theorem known_solve_eq (nf : Nat) (p : TBlfn1) (have' : List Int) : runF known_solve_tab (known_solve_phi nf) known_solve_keep nf [PT.val (tI5fn1.sl.pair ((Ty.int IntKind.i64).pair tI2fn1)).sl (Md.bor true false), PT.val (Ty.int IntKind.i64).sl (Md.bor true false)] [((Ty.int IntKind.i64).sl.sl, Md.own false (Md.own true (Md.bor false true)))] (resL ([]) Try.f82) (codeOf Try.f82) ⟨p, have', ()⟩ = known_solve_f nf p have' := by
  have h : runF known_solve_tab (known_solve_phi nf) known_solve_keep nf [PT.val (tI5fn1.sl.pair ((Ty.int IntKind.i64).pair tI2fn1)).sl (Md.bor true false), PT.val (Ty.int IntKind.i64).sl (Md.bor true false)] [((Ty.int IntKind.i64).sl.sl, Md.own false (Md.own true (Md.bor false true)))] (resL ([]) Try.f82) (codeOf Try.f82) ⟨p, have', ()⟩ = known_solve_p nf (fun p0 v0 v1 => iter nf (LC.F known_solve_tab (known_solve_phi nf) (fun _ F => iter nf F) known_solve_keep 0 (known_solve_L0 nf)) (known_solve_m0 p0 v0 v1)) p have' := by kernel_rfl
  rw [h]
  simp only [known_solve_e0]
  rfl
def known_solve_F (nf : Nat) (x : denPs [.val (.sl (.pair (.sl tI5fn1) tI3fn1)) (.bor true false), .val (.sl (.int .i64)) (.bor true false)]) : Option (denL [(.sl (.sl (.int .i64)), .own false (.own true (.bor false true)))]) := known_solve_f nf x.1 x.2.1
def known_solve_C (nf : Nat) : Contract := ⟨[.val (.sl (.pair (.sl tI5fn1) tI3fn1)) (.bor true false), .val (.sl (.int .i64)) (.bor true false)], [(.sl (.sl (.int .i64)), .own false (.own true (.bor false true)))], known_solve_F nf, []⟩
theorem known_solve_ok : FnOK Try.prog 82 := ⟨Try.f82, codeOf Try.f82, Try.func82, by kernel_rfl, by kernel_rfl⟩
theorem known_solve_holds (nf : Nat) : Contract.Holds Try.prog 82 (known_solve_C nf) :=
  fn_holds (Φ := known_solve_phi nf) (keep := known_solve_keep) (n := nf) ⟨known_solve_tabs.1, known_solve_tabs.2, (ctx_cons known_behind_ok (known_behind_holds nf) (ctx_cons slices_Clone_ok (slices_Clone_holds nf) ctx_nil)), mixed, bk_ok bkls rfl⟩ (fn := Try.f82) ⟨Try.func82, by kernel_rfl, by kernel_rfl, by kernel_rfl⟩ (fun x => known_solve_eq nf x.1 x.2.1)

/-! slices.Clone   codemason api.Step codemason api.Step  -/
def slices_Clone__phi (nf : Nat) : Nat → Option Contract := lookC []
def slices_Clone__keep : Nat → List Nat := lookK []
def slices_Clone__p (nf : Nat)  (s : TStfn1) : Option (TStfn1 × Unit) :=
  bif s.isEmpty then
    both (some (([], ()))) (bif bimp false !s.isEmpty && ((List.length ([] : List Unit)) + s.length).ble lim then
      some (([] ++ s, ()))
    else
      none)
  else
    bif bimp false !s.isEmpty && ((List.length ([] : List Unit)) + s.length).ble lim then
      some (([] ++ s, ()))
    else
      none
def slices_Clone__f (nf : Nat) (s : TStfn1) : Option (TStfn1 × Unit) := slices_Clone__p nf  s
theorem slices_Clone__eq (nf : Nat) (s : TStfn1) : runF tab (slices_Clone__phi nf) slices_Clone__keep nf [PT.val tI5fn1.sl (Md.bor true false)] [(tI5fn1.sl, Md.own false (Md.bor false false))] (resL ([]) Try.f87) (codeOf Try.f87) ⟨s, ()⟩ = slices_Clone__f nf s := by
  have h : runF tab (slices_Clone__phi nf) slices_Clone__keep nf [PT.val tI5fn1.sl (Md.bor true false)] [(tI5fn1.sl, Md.own false (Md.bor false false))] (resL ([]) Try.f87) (codeOf Try.f87) ⟨s, ()⟩ = slices_Clone__p nf  s := by kernel_rfl
  exact h
def slices_Clone__F (nf : Nat) (x : denPs [.val (.sl tI5fn1) (.bor true false)]) : Option (denL [(.sl tI5fn1, .own false (.bor false false))]) := slices_Clone__f nf x.1
def slices_Clone__C (nf : Nat) : Contract := ⟨[.val (.sl tI5fn1) (.bor true false)], [(.sl tI5fn1, .own false (.bor false false))], slices_Clone__F nf, []⟩
theorem slices_Clone__ok : FnOK Try.prog 87 := ⟨Try.f87, codeOf Try.f87, Try.func87, by kernel_rfl, by kernel_rfl⟩
theorem slices_Clone__holds (nf : Nat) : Contract.Holds Try.prog 87 (slices_Clone__C nf) :=
  fn_holds (Φ := slices_Clone__phi nf) (keep := slices_Clone__keep) (n := nf) ⟨tabs.1, tabs.2, ctx_nil, mixed, bk_ok bkls rfl⟩ (fn := Try.f87) ⟨Try.func87, by kernel_rfl, by kernel_rfl, by kernel_rfl⟩ (fun x => slices_Clone__eq nf x.1)

/-! codemason known.Fold -/
def known_Fold_tab : Tab := ⟨lookT tyL, lookM ([(26, .own false (.own true (.bor false true)))] ++ mdL), hasT [185], hasT [9, 10, 11], fun _ => none, lookB bkl⟩
theorem known_Fold_tabs : TabOK Try.prog known_Fold_tab ∧ EqOK Try.prog known_Fold_tab := tab_ok (by kernel_rfl) (by kernel_rfl)
def known_Fold_phi (nf : Nat) : Nat → Option Contract := lookC [(81, known_wrong_C nf), (82, known_solve_C nf), (86, known_behind_C nf), (87, slices_Clone__C nf), (88, slices_Clone_C nf), (89, known_makes_C nf)]
def known_Fold_keep : Nat → List Nat := lookK [(2, [1, 9, 11, 12, 14, 26, 27, 28, 31, 32, 38, 43, 46, 48, 54, 55, 56, 57, 58, 106]), (0, [1, 9, 26, 27, 28, 38, 106])]
def known_Fold_b0 (nf : Nat) (l2 : TBlfn1 → List (List Int) × Unit → Int → TStfn1 × Unit → TBlfn1 → List Int → TStfn1 × Int × Int × Int × Unit → List Int → List (List Int) → Int → Option (TBlfn1 × Int × Unit)) (p : TBlfn1) (r2 : List (List Int) × Unit) (g0 : TBlfn1 → List (List Int) → Int → Option (TBlfn1 × Int × Unit)) (out : TBlfn1) (t26 : List (List Int)) (t28 : Int) : Option (TBlfn1 × Int × Unit) :=
  bif decide (t28 < (↑(List.length r2.fst) : Int)) then
    bif inb t28 t26.length then
      bif List.isEmpty (t26.getD t28.toNat []) then
        bif !false && leM (tI5fn1.sl.pair ((Ty.int IntKind.i64).pair tI2fn1)) 0 (Md.bor false false) (Md.bor false false) && (out.length + [(([] : TStfn1), (-1), (-1), 0, ())].length).ble lim then
          g0 (out ++ [(([] : TStfn1), (-1), (-1), 0, ())]) t26 (IntKind.i64.wrap (t28 + 1))
        else
          none
      else
        bif inb t28 p.length then
          Option.bind (known_behind_f nf (p.getD t28.toNat ([], 0, 0, 0, ())) (t26.getD t28.toNat [])) fun r3 =>
          Option.bind (slices_Clone__f nf ((p.getD t28.toNat ([], 0, 0, 0, ())).fst)) fun r4 =>
          Option.bind (slices_Clone_f nf (t26.getD t28.toNat [])) fun r5 =>
          l2 p r2 t28 r4 out r5.fst ((r4.fst, (p.getD t28.toNat ([], 0, 0, 0, ())).snd)) r3.snd.fst t26 0
        else
          none
    else
      none
  else
    some ((out, 0, ()))
def known_Fold_b2 (nf : Nat) (p : TBlfn1) (r2 : List (List Int) × Unit) (t28 : Int) (r4 : TStfn1 × Unit) (g0 : TBlfn1 → List (List Int) → Int → Option (TBlfn1 × Int × Unit)) (g2 : TBlfn1 → List Int → TStfn1 × Int × Int × Int × Unit → List Int → List (List Int) → Int → Option (TBlfn1 × Int × Unit)) (out2 : TBlfn1) (v : List Int) (b : TStfn1 × Int × Int × Int × Unit) (to' : List Int) (t262 : List (List Int)) (t58 : Int) : Option (TBlfn1 × Int × Unit) :=
  bif decide (t58 < (↑(List.length r4.fst) : Int)) then
    bif inb t58 (List.length b.fst) then
      Option.bind (known_makes_f nf (List.getD b.fst t58.toNat (0, 0, 0, 0, 0, ())) v) fun r6 =>
      bif inb (List.getD b.fst t58.toNat (0, 0, 0, 0, 0, ())).snd.fst v.length then
        bif inb (List.getD b.fst t58.toNat (0, 0, 0, 0, 0, ())).snd.fst (v.set (Int.toNat (List.getD b.fst t58.toNat (0, 0, 0, 0, 0, ())).snd.fst) r6.fst).length then
          bif (v.set (Int.toNat (List.getD b.fst t58.toNat (0, 0, 0, 0, 0, ())).snd.fst) r6.fst).getD (Int.toNat (List.getD b.fst t58.toNat (0, 0, 0, 0, 0, ())).snd.fst) 0 != (-1) then
            bif inb (List.getD b.fst t58.toNat (0, 0, 0, 0, 0, ())).snd.fst (v.set (Int.toNat (List.getD b.fst t58.toNat (0, 0, 0, 0, 0, ())).snd.fst) r6.fst).length then
              bif inb t58 (List.length b.fst) then
                g2 out2 (v.set (Int.toNat (List.getD b.fst t58.toNat (0, 0, 0, 0, 0, ())).snd.fst) r6.fst) ((List.set b.fst t58.toNat (1, (List.getD b.fst t58.toNat (0, 0, 0, 0, 0, ())).snd.fst, 0, 0, (v.set (Int.toNat (List.getD b.fst t58.toNat (0, 0, 0, 0, 0, ())).snd.fst) r6.fst).getD (Int.toNat (List.getD b.fst t58.toNat (0, 0, 0, 0, 0, ())).snd.fst) 0, ()), b.snd)) to' t262 (IntKind.i64.wrap (t58 + 1))
              else
                none
            else
              none
          else
            g2 out2 (v.set (Int.toNat (List.getD b.fst t58.toNat (0, 0, 0, 0, 0, ())).snd.fst) r6.fst) b to' t262 (IntKind.i64.wrap (t58 + 1))
        else
          none
      else
        none
    else
      none
  else
    bif decide (b.snd.fst ≥ 0) then
      bif (↑to'.length : Int) == 1 then
        bif inb 0 to'.length then
          bif !false && leM (tI5fn1.sl.pair ((Ty.int IntKind.i64).pair tI2fn1)) 0 (Md.bor false false) (Md.bor false false) && (out2.length + [(b.fst, (-1), to'.getD 0 0, 0, b.snd.snd.snd.snd)].length).ble lim then
            g0 (out2 ++ [(b.fst, (-1), to'.getD 0 0, 0, b.snd.snd.snd.snd)]) t262 (IntKind.i64.wrap (t28 + 1))
          else
            none
        else
          none
      else
        bif !false && leM (tI5fn1.sl.pair ((Ty.int IntKind.i64).pair tI2fn1)) 0 (Md.bor false false) (Md.bor false false) && (out2.length + [b].length).ble lim then
          g0 (out2 ++ [b]) t262 (IntKind.i64.wrap (t28 + 1))
        else
          none
    else
      bif !false && leM (tI5fn1.sl.pair ((Ty.int IntKind.i64).pair tI2fn1)) 0 (Md.bor false false) (Md.bor false false) && (out2.length + [b].length).ble lim then
        g0 (out2 ++ [b]) t262 (IntKind.i64.wrap (t28 + 1))
      else
        none
def known_Fold_p (nf : Nat) (l0 : TBlfn1 → List (List Int) × Unit → TBlfn1 → List (List Int) → Int → Option (TBlfn1 × Int × Unit)) (vars : Int) (p : TBlfn1) (have' : List Int) : Option (TBlfn1 × Int × Unit) :=
  Option.bind (known_wrong_f nf vars p have') fun r =>
  bif r.fst != 0 then
    some (([], r.fst, ()))
  else
    Option.bind (known_solve_f nf p have') fun r2 =>
    l0 p r2 [] r2.fst 0
def known_Fold_l2 (nf : Nat) (p : TBlfn1) (r2 : List (List Int) × Unit) (t28 : Int) (r4 : TStfn1 × Unit) (g0 : TBlfn1 → List (List Int) → Int → Option (TBlfn1 × Int × Unit)) : Nat → TBlfn1 → List Int → TStfn1 × Int × Int × Int × Unit → List Int → List (List Int) → Int → Option (TBlfn1 × Int × Unit)
  | 0, _, _, _, _, _, _ => none
  | fu + 1, out2, v, b, to', t262, t58 => known_Fold_b2 nf  p r2 t28 r4 g0 (known_Fold_l2 nf p r2 t28 r4 g0 fu) out2 v b to' t262 t58
def known_Fold_l0 (nf : Nat) (p : TBlfn1) (r2 : List (List Int) × Unit) : Nat → TBlfn1 → List (List Int) → Int → Option (TBlfn1 × Int × Unit)
  | 0, _, _, _ => none
  | fu + 1, out, t26, t28 => known_Fold_b0 nf (fun _ _ p2 p3 v0 v1 v2 v3 v4 v5 => known_Fold_l2 nf p r2 p2 p3 (fun out t26 t28 => known_Fold_l0 nf p r2  fu out t26 t28) nf v0 v1 v2 v3 v4 v5) p r2  (known_Fold_l0 nf p r2  fu) out t26 t28
def known_Fold_f (nf : Nat) (vars : Int) (p : TBlfn1) (have' : List Int) : Option (TBlfn1 × Int × Unit) := known_Fold_p nf (fun p0 p1 v0 v1 v2 => known_Fold_l0 nf p0 p1 nf v0 v1 v2) vars p have'
noncomputable def known_Fold_L0 (nf : Nat) : LC (TBlfn1 × Int × Unit) := theL (findL known_Fold_tab (known_Fold_phi nf) (fun _ F => iter nf F) known_Fold_keep 0 0 (codeOf Try.f39) (fin known_Fold_tab [((tI5fn1.sl.pair ((Ty.int IntKind.i64).pair tI2fn1)).sl, Md.own false (Md.bor false false)), (Ty.int IntKind.i64, Md.bor false true)] (resL ([]) Try.f39)) (fun _ _ => none) (fin known_Fold_tab [((tI5fn1.sl.pair ((Ty.int IntKind.i64).pair tI2fn1)).sl, Md.own false (Md.bor false false)), (Ty.int IntKind.i64, Md.bor false true)] (resL ([]) Try.f39)))
def known_Fold_m0 (p : TBlfn1) (r2 : List (List Int) × Unit) (out : TBlfn1) (t26 : List (List Int)) (t28 : Int) : St := ⟨fresh, [(1, AV.v (tI5fn1.sl.pair ((Ty.int IntKind.i64).pair tI2fn1)).sl (Md.bor true false) p), (9, AV.ow 500009 (tI5fn1.sl.pair ((Ty.int IntKind.i64).pair tI2fn1)).sl (Md.own false (Md.bor false false)) out), (26, AV.ow 500026 (Ty.int IntKind.i64).sl.sl (Md.own false (Md.own true (Md.bor false true))) t26), (27, AV.v (Ty.int IntKind.i64) (Md.bor false true) (↑(List.length r2.fst) : Int)), (28, AV.v (Ty.int IntKind.i64) (Md.bor false true) t28), (38, AV.dead), (106, AV.dead)]⟩
noncomputable def known_Fold_L2 (nf : Nat) (G0 : St → Option (TBlfn1 × Int × Unit)) : LC (TBlfn1 × Int × Unit) := theL (findL known_Fold_tab (known_Fold_phi nf) (fun _ F => iter nf F) known_Fold_keep 2 0 (known_Fold_L0 nf ).c (fun st => norm (known_Fold_keep 0) st G0) (known_Fold_L0 nf ).Kx (known_Fold_L0 nf ).Kr)
def known_Fold_m2 (p : TBlfn1) (r2 : List (List Int) × Unit) (t28 : Int) (r4 : TStfn1 × Unit) (out2 : TBlfn1) (v : List Int) (b : TStfn1 × Int × Int × Int × Unit) (to' : List Int) (t262 : List (List Int)) (t58 : Int) : St := ⟨fresh, [(1, AV.v (tI5fn1.sl.pair ((Ty.int IntKind.i64).pair tI2fn1)).sl (Md.bor true false) p), (9, AV.ow 500009 (tI5fn1.sl.pair ((Ty.int IntKind.i64).pair tI2fn1)).sl (Md.own false (Md.bor false false)) out2), (11, AV.ow 500011 (Ty.int IntKind.i64).sl (Md.own false (Md.bor false false)) v), (12, AV.box 12 500012 (tI5fn1.sl.pair ((Ty.int IntKind.i64).pair tI2fn1)) ((Md.own false (Md.bor false false)).pair (Md.bor true false)) b), (14, AV.ow 500014 (Ty.int IntKind.i64).sl (Md.own false (Md.bor false false)) to'), (26, AV.ow 500026 (Ty.int IntKind.i64).sl.sl (Md.own false (Md.own true (Md.bor false true))) t262), (27, AV.v (Ty.int IntKind.i64) (Md.bor false true) (↑(List.length r2.fst) : Int)), (28, AV.v (Ty.int IntKind.i64) (Md.bor false true) t28), (31, AV.pl 26 500026 [Stp.el t28.toNat]), (32, AV.al 26 500026 [Stp.el t28.toNat]), (38, AV.dead), (43, AV.dead), (46, AV.dead), (48, AV.dead), (54, AV.dead), (55, AV.pl 12 12 [Stp.dr, Stp.fld 0]), (56, AV.al 12 500012 [Stp.dr, Stp.fld 0]), (57, AV.v (Ty.int IntKind.i64) (Md.bor false true) (↑(List.length r4.fst) : Int)), (58, AV.v (Ty.int IntKind.i64) (Md.bor false true) t58), (106, AV.dead)]⟩
theorem known_Fold_h2 (nf : Nat) (G0 : St → Option (TBlfn1 × Int × Unit)) (p : TBlfn1) (r2 : List (List Int) × Unit) (t28 : Int) (r4 : TStfn1 × Unit) (fu : Nat) (out2 : TBlfn1) (v : List Int) (b : TStfn1 × Int × Int × Int × Unit) (to' : List Int) (t262 : List (List Int)) (t58 : Int) : iter (fu + 1) (LC.F known_Fold_tab (known_Fold_phi nf) (fun _ F => iter nf F) known_Fold_keep 2 (known_Fold_L2 nf G0)) (known_Fold_m2 p r2 t28 r4 out2 v b to' t262 t58) = known_Fold_b2 nf  p r2 t28 r4 (fun out t26 t28 => G0 (known_Fold_m0 p r2 out t26 t28)) (fun out2 v b to' t262 t58 => iter fu (LC.F known_Fold_tab (known_Fold_phi nf) (fun _ F => iter nf F) known_Fold_keep 2 (known_Fold_L2 nf G0)) (known_Fold_m2 p r2 t28 r4 out2 v b to' t262 t58)) out2 v b to' t262 t58 := by kernel_rfl
theorem known_Fold_e2 (nf : Nat) (G0 : St → Option (TBlfn1 × Int × Unit)) (p : TBlfn1) (r2 : List (List Int) × Unit) (t28 : Int) (r4 : TStfn1 × Unit) : ∀ (fu : Nat) (out2 : TBlfn1) (v : List Int) (b : TStfn1 × Int × Int × Int × Unit) (to' : List Int) (t262 : List (List Int)) (t58 : Int), iter fu (LC.F known_Fold_tab (known_Fold_phi nf) (fun _ F => iter nf F) known_Fold_keep 2 (known_Fold_L2 nf G0)) (known_Fold_m2 p r2 t28 r4 out2 v b to' t262 t58) = known_Fold_l2 nf p r2 t28 r4 (fun out t26 t28 => G0 (known_Fold_m0 p r2 out t26 t28)) fu out2 v b to' t262 t58 := by
  intro fu
  induction fu with
  | zero => intros; rfl
  | succ fu ih =>
    intro out2 v b to' t262 t58
    rw [known_Fold_h2 nf G0 p r2 t28 r4 fu out2 v b to' t262 t58]
    simp only [ih]
    rfl
theorem known_Fold_h0 (nf : Nat)  (p : TBlfn1) (r2 : List (List Int) × Unit) (fu : Nat) (out : TBlfn1) (t26 : List (List Int)) (t28 : Int) : iter (fu + 1) (LC.F known_Fold_tab (known_Fold_phi nf) (fun _ F => iter nf F) known_Fold_keep 0 (known_Fold_L0 nf )) (known_Fold_m0 p r2 out t26 t28) = known_Fold_b0 nf (fun _ _ p2 p3 v0 v1 v2 v3 v4 v5 => iter nf (LC.F known_Fold_tab (known_Fold_phi nf) (fun _ F => iter nf F) known_Fold_keep 2 (known_Fold_L2 nf (iter fu (LC.F known_Fold_tab (known_Fold_phi nf) (fun _ F => iter nf F) known_Fold_keep 0 (known_Fold_L0 nf ))))) (known_Fold_m2 p r2 p2 p3 v0 v1 v2 v3 v4 v5)) p r2  (fun out t26 t28 => iter fu (LC.F known_Fold_tab (known_Fold_phi nf) (fun _ F => iter nf F) known_Fold_keep 0 (known_Fold_L0 nf )) (known_Fold_m0 p r2 out t26 t28)) out t26 t28 := by kernel_rfl
theorem known_Fold_e0 (nf : Nat)  (p : TBlfn1) (r2 : List (List Int) × Unit) : ∀ (fu : Nat) (out : TBlfn1) (t26 : List (List Int)) (t28 : Int), iter fu (LC.F known_Fold_tab (known_Fold_phi nf) (fun _ F => iter nf F) known_Fold_keep 0 (known_Fold_L0 nf )) (known_Fold_m0 p r2 out t26 t28) = known_Fold_l0 nf p r2  fu out t26 t28 := by
  intro fu
  induction fu with
  | zero => intros; rfl
  | succ fu ih =>
    intro out t26 t28
    rw [known_Fold_h0 nf  p r2 fu out t26 t28]
    simp only [ih, known_Fold_e2]
    rfl
theorem known_Fold_eq (nf : Nat) (vars : Int) (p : TBlfn1) (have' : List Int) : runF known_Fold_tab (known_Fold_phi nf) known_Fold_keep nf [PT.val (Ty.int IntKind.i64) (Md.bor true false), PT.val (tI5fn1.sl.pair ((Ty.int IntKind.i64).pair tI2fn1)).sl (Md.bor true false), PT.val (Ty.int IntKind.i64).sl (Md.bor true false)] [((tI5fn1.sl.pair ((Ty.int IntKind.i64).pair tI2fn1)).sl, Md.own false (Md.bor false false)), (Ty.int IntKind.i64, Md.bor false true)] (resL ([]) Try.f39) (codeOf Try.f39) ⟨vars, p, have', ()⟩ = known_Fold_f nf vars p have' := by
  have h : runF known_Fold_tab (known_Fold_phi nf) known_Fold_keep nf [PT.val (Ty.int IntKind.i64) (Md.bor true false), PT.val (tI5fn1.sl.pair ((Ty.int IntKind.i64).pair tI2fn1)).sl (Md.bor true false), PT.val (Ty.int IntKind.i64).sl (Md.bor true false)] [((tI5fn1.sl.pair ((Ty.int IntKind.i64).pair tI2fn1)).sl, Md.own false (Md.bor false false)), (Ty.int IntKind.i64, Md.bor false true)] (resL ([]) Try.f39) (codeOf Try.f39) ⟨vars, p, have', ()⟩ = known_Fold_p nf (fun p0 p1 v0 v1 v2 => iter nf (LC.F known_Fold_tab (known_Fold_phi nf) (fun _ F => iter nf F) known_Fold_keep 0 (known_Fold_L0 nf)) (known_Fold_m0 p0 p1 v0 v1 v2)) vars p have' := by kernel_rfl
  rw [h]
  simp only [known_Fold_e0]
  rfl
def known_Fold_F (nf : Nat) (x : denPs [.val (.int .i64) (.bor true false), .val (.sl (.pair (.sl tI5fn1) tI3fn1)) (.bor true false), .val (.sl (.int .i64)) (.bor true false)]) : Option (denL [(.sl (.pair (.sl tI5fn1) tI3fn1), .own false (.bor false false)), (.int .i64, .bor false true)]) := known_Fold_f nf x.1 x.2.1 x.2.2.1
def known_Fold_C (nf : Nat) : Contract := ⟨[.val (.int .i64) (.bor true false), .val (.sl (.pair (.sl tI5fn1) tI3fn1)) (.bor true false), .val (.sl (.int .i64)) (.bor true false)], [(.sl (.pair (.sl tI5fn1) tI3fn1), .own false (.bor false false)), (.int .i64, .bor false true)], known_Fold_F nf, []⟩
theorem known_Fold_ok : FnOK Try.prog 39 := ⟨Try.f39, codeOf Try.f39, Try.func39, by kernel_rfl, by kernel_rfl⟩
theorem known_Fold_holds (nf : Nat) : Contract.Holds Try.prog 39 (known_Fold_C nf) :=
  fn_holds (Φ := known_Fold_phi nf) (keep := known_Fold_keep) (n := nf) ⟨known_Fold_tabs.1, known_Fold_tabs.2, (ctx_cons known_wrong_ok (known_wrong_holds nf) (ctx_cons known_solve_ok (known_solve_holds nf) (ctx_cons known_behind_ok (known_behind_holds nf) (ctx_cons slices_Clone__ok (slices_Clone__holds nf) (ctx_cons slices_Clone_ok (slices_Clone_holds nf) (ctx_cons known_makes_ok (known_makes_holds nf) ctx_nil)))))), mixed, bk_ok bkls rfl⟩ (fn := Try.f39) ⟨Try.func39, by kernel_rfl, by kernel_rfl, by kernel_rfl⟩ (fun x => known_Fold_eq nf x.1 x.2.1 x.2.2.1)

/-! codemason codemasonref.Ints -/
def ref_Ints_phi (nf : Nat) : Nat → Option Contract := lookC []
def ref_Ints_keep : Nat → List Nat := lookK [(0, [0, 1, 5])]
def ref_Ints_b0 (nf : Nat) (a : List Int) (b : List Int) (g0 : Int → Option (Bool × Unit)) (i : Int) : Option (Bool × Unit) :=
  bif decide (i < (↑a.length : Int)) then
    bif inb i a.length then
      bif inb i b.length then
        bif a.getD i.toNat 0 != b.getD i.toNat 0 then
          some ((false, ()))
        else
          g0 (IntKind.i64.wrap (i + 1))
      else
        none
    else
      none
  else
    some ((true, ()))
def ref_Ints_p (nf : Nat) (l0 : List Int → List Int → Int → Option (Bool × Unit)) (a : List Int) (b : List Int) : Option (Bool × Unit) :=
  bif (↑a.length : Int) != (↑b.length : Int) then
    some ((false, ()))
  else
    l0 a b 0
def ref_Ints_l0 (nf : Nat) (a : List Int) (b : List Int) : Nat → Int → Option (Bool × Unit)
  | 0, _ => none
  | fu + 1, i => ref_Ints_b0 nf  a b  (ref_Ints_l0 nf a b  fu) i
def ref_Ints_f (nf : Nat) (a : List Int) (b : List Int) : Option (Bool × Unit) := ref_Ints_p nf (fun p0 p1 v0 => ref_Ints_l0 nf p0 p1 nf v0) a b
noncomputable def ref_Ints_L0 (nf : Nat) : LC (Bool × Unit) := theL (findL tab (ref_Ints_phi nf) (fun _ F => iter nf F) ref_Ints_keep 0 0 (codeOf Try.f27) (fin tab [(Ty.bool, Md.bor false true)] (resL ([]) Try.f27)) (fun _ _ => none) (fin tab [(Ty.bool, Md.bor false true)] (resL ([]) Try.f27)))
def ref_Ints_m0 (a : List Int) (b : List Int) (i : Int) : St := ⟨fresh, [(0, AV.v (Ty.int IntKind.i64).sl (Md.bor true false) a), (1, AV.v (Ty.int IntKind.i64).sl (Md.bor true false) b), (5, AV.v (Ty.int IntKind.i64) (Md.bor false true) i)]⟩
theorem ref_Ints_h0 (nf : Nat)  (a : List Int) (b : List Int) (fu : Nat) (i : Int) : iter (fu + 1) (LC.F tab (ref_Ints_phi nf) (fun _ F => iter nf F) ref_Ints_keep 0 (ref_Ints_L0 nf )) (ref_Ints_m0 a b i) = ref_Ints_b0 nf  a b  (fun i => iter fu (LC.F tab (ref_Ints_phi nf) (fun _ F => iter nf F) ref_Ints_keep 0 (ref_Ints_L0 nf )) (ref_Ints_m0 a b i)) i := by kernel_rfl
theorem ref_Ints_e0 (nf : Nat)  (a : List Int) (b : List Int) : ∀ (fu : Nat) (i : Int), iter fu (LC.F tab (ref_Ints_phi nf) (fun _ F => iter nf F) ref_Ints_keep 0 (ref_Ints_L0 nf )) (ref_Ints_m0 a b i) = ref_Ints_l0 nf a b  fu i := by
  intro fu
  induction fu with
  | zero => intros; rfl
  | succ fu ih =>
    intro i
    rw [ref_Ints_h0 nf  a b fu i]
    simp only [ih]
    rfl
theorem ref_Ints_eq (nf : Nat) (a : List Int) (b : List Int) : runF tab (ref_Ints_phi nf) ref_Ints_keep nf [PT.val (Ty.int IntKind.i64).sl (Md.bor true false), PT.val (Ty.int IntKind.i64).sl (Md.bor true false)] [(Ty.bool, Md.bor false true)] (resL ([]) Try.f27) (codeOf Try.f27) ⟨a, b, ()⟩ = ref_Ints_f nf a b := by
  have h : runF tab (ref_Ints_phi nf) ref_Ints_keep nf [PT.val (Ty.int IntKind.i64).sl (Md.bor true false), PT.val (Ty.int IntKind.i64).sl (Md.bor true false)] [(Ty.bool, Md.bor false true)] (resL ([]) Try.f27) (codeOf Try.f27) ⟨a, b, ()⟩ = ref_Ints_p nf (fun p0 p1 v0 => iter nf (LC.F tab (ref_Ints_phi nf) (fun _ F => iter nf F) ref_Ints_keep 0 (ref_Ints_L0 nf)) (ref_Ints_m0 p0 p1 v0)) a b := by kernel_rfl
  rw [h]
  simp only [ref_Ints_e0]
  rfl
def ref_Ints_F (nf : Nat) (x : denPs [.val (.sl (.int .i64)) (.bor true false), .val (.sl (.int .i64)) (.bor true false)]) : Option (denL [(.bool, .bor false true)]) := ref_Ints_f nf x.1 x.2.1
def ref_Ints_C (nf : Nat) : Contract := ⟨[.val (.sl (.int .i64)) (.bor true false), .val (.sl (.int .i64)) (.bor true false)], [(.bool, .bor false true)], ref_Ints_F nf, []⟩
theorem ref_Ints_ok : FnOK Try.prog 27 := ⟨Try.f27, codeOf Try.f27, Try.func27, by kernel_rfl, by kernel_rfl⟩
theorem ref_Ints_holds (nf : Nat) : Contract.Holds Try.prog 27 (ref_Ints_C nf) :=
  fn_holds (Φ := ref_Ints_phi nf) (keep := ref_Ints_keep) (n := nf) ⟨tabs.1, tabs.2, ctx_nil, mixed, bk_ok bkls rfl⟩ (fn := Try.f27) ⟨Try.func27, by kernel_rfl, by kernel_rfl, by kernel_rfl⟩ (fun x => ref_Ints_eq nf x.1 x.2.1)

/-! codemason codemasonref.Lists -/
def ref_Lists_phi (nf : Nat) : Nat → Option Contract := lookC [(27, ref_Ints_C nf)]
def ref_Lists_keep : Nat → List Nat := lookK [(0, [0, 1, 5])]
def ref_Lists_b0 (nf : Nat) (a : List (List Int)) (b : List (List Int)) (g0 : Int → Option (Bool × Unit)) (i : Int) : Option (Bool × Unit) :=
  bif decide (i < (↑a.length : Int)) then
    bif inb i a.length then
      bif inb i b.length then
        Option.bind (ref_Ints_f nf (a.getD i.toNat []) (b.getD i.toNat [])) fun r =>
        bif !r.fst then
          some ((false, ()))
        else
          g0 (IntKind.i64.wrap (i + 1))
      else
        none
    else
      none
  else
    some ((true, ()))
def ref_Lists_p (nf : Nat) (l0 : List (List Int) → List (List Int) → Int → Option (Bool × Unit)) (a : List (List Int)) (b : List (List Int)) : Option (Bool × Unit) :=
  bif (↑a.length : Int) != (↑b.length : Int) then
    some ((false, ()))
  else
    l0 a b 0
def ref_Lists_l0 (nf : Nat) (a : List (List Int)) (b : List (List Int)) : Nat → Int → Option (Bool × Unit)
  | 0, _ => none
  | fu + 1, i => ref_Lists_b0 nf  a b  (ref_Lists_l0 nf a b  fu) i
def ref_Lists_f (nf : Nat) (a : List (List Int)) (b : List (List Int)) : Option (Bool × Unit) := ref_Lists_p nf (fun p0 p1 v0 => ref_Lists_l0 nf p0 p1 nf v0) a b
noncomputable def ref_Lists_L0 (nf : Nat) : LC (Bool × Unit) := theL (findL tab (ref_Lists_phi nf) (fun _ F => iter nf F) ref_Lists_keep 0 0 (codeOf Try.f22) (fin tab [(Ty.bool, Md.bor false true)] (resL ([]) Try.f22)) (fun _ _ => none) (fin tab [(Ty.bool, Md.bor false true)] (resL ([]) Try.f22)))
def ref_Lists_m0 (a : List (List Int)) (b : List (List Int)) (i : Int) : St := ⟨fresh, [(0, AV.v (Ty.int IntKind.i64).sl.sl (Md.bor true false) a), (1, AV.v (Ty.int IntKind.i64).sl.sl (Md.bor true false) b), (5, AV.v (Ty.int IntKind.i64) (Md.bor false true) i)]⟩
theorem ref_Lists_h0 (nf : Nat)  (a : List (List Int)) (b : List (List Int)) (fu : Nat) (i : Int) : iter (fu + 1) (LC.F tab (ref_Lists_phi nf) (fun _ F => iter nf F) ref_Lists_keep 0 (ref_Lists_L0 nf )) (ref_Lists_m0 a b i) = ref_Lists_b0 nf  a b  (fun i => iter fu (LC.F tab (ref_Lists_phi nf) (fun _ F => iter nf F) ref_Lists_keep 0 (ref_Lists_L0 nf )) (ref_Lists_m0 a b i)) i := by kernel_rfl
theorem ref_Lists_e0 (nf : Nat)  (a : List (List Int)) (b : List (List Int)) : ∀ (fu : Nat) (i : Int), iter fu (LC.F tab (ref_Lists_phi nf) (fun _ F => iter nf F) ref_Lists_keep 0 (ref_Lists_L0 nf )) (ref_Lists_m0 a b i) = ref_Lists_l0 nf a b  fu i := by
  intro fu
  induction fu with
  | zero => intros; rfl
  | succ fu ih =>
    intro i
    rw [ref_Lists_h0 nf  a b fu i]
    simp only [ih]
    rfl
theorem ref_Lists_eq (nf : Nat) (a : List (List Int)) (b : List (List Int)) : runF tab (ref_Lists_phi nf) ref_Lists_keep nf [PT.val (Ty.int IntKind.i64).sl.sl (Md.bor true false), PT.val (Ty.int IntKind.i64).sl.sl (Md.bor true false)] [(Ty.bool, Md.bor false true)] (resL ([]) Try.f22) (codeOf Try.f22) ⟨a, b, ()⟩ = ref_Lists_f nf a b := by
  have h : runF tab (ref_Lists_phi nf) ref_Lists_keep nf [PT.val (Ty.int IntKind.i64).sl.sl (Md.bor true false), PT.val (Ty.int IntKind.i64).sl.sl (Md.bor true false)] [(Ty.bool, Md.bor false true)] (resL ([]) Try.f22) (codeOf Try.f22) ⟨a, b, ()⟩ = ref_Lists_p nf (fun p0 p1 v0 => iter nf (LC.F tab (ref_Lists_phi nf) (fun _ F => iter nf F) ref_Lists_keep 0 (ref_Lists_L0 nf)) (ref_Lists_m0 p0 p1 v0)) a b := by kernel_rfl
  rw [h]
  simp only [ref_Lists_e0]
  rfl
def ref_Lists_F (nf : Nat) (x : denPs [.val (.sl (.sl (.int .i64))) (.bor true false), .val (.sl (.sl (.int .i64))) (.bor true false)]) : Option (denL [(.bool, .bor false true)]) := ref_Lists_f nf x.1 x.2.1
def ref_Lists_C (nf : Nat) : Contract := ⟨[.val (.sl (.sl (.int .i64))) (.bor true false), .val (.sl (.sl (.int .i64))) (.bor true false)], [(.bool, .bor false true)], ref_Lists_F nf, []⟩
theorem ref_Lists_ok : FnOK Try.prog 22 := ⟨Try.f22, codeOf Try.f22, Try.func22, by kernel_rfl, by kernel_rfl⟩
theorem ref_Lists_holds (nf : Nat) : Contract.Holds Try.prog 22 (ref_Lists_C nf) :=
  fn_holds (Φ := ref_Lists_phi nf) (keep := ref_Lists_keep) (n := nf) ⟨tabs.1, tabs.2, (ctx_cons ref_Ints_ok (ref_Ints_holds nf) ctx_nil), mixed, bk_ok bkls rfl⟩ (fn := Try.f22) ⟨Try.func22, by kernel_rfl, by kernel_rfl, by kernel_rfl⟩ (fun x => ref_Lists_eq nf x.1 x.2.1)

/-! codemason codemasonref.Op -/
def ref_Op_phi (nf : Nat) : Nat → Option Contract := lookC []
def ref_Op_keep : Nat → List Nat := lookK []
def ref_Op_p (nf : Nat)  (op : Int) (a : Int) (b : Int) : Option (Int × Unit) :=
  bif op == 3 then
    bif op == 4 then
      bif op == 5 then
        bif op == 6 then
          bif decide (a < b) then
            some ((Int.tmod 1 256, ()))
          else
            some (((IntKind.i64.wrap (a * b)).tmod 256, ()))
        else
          some (((IntKind.i64.wrap (a * b)).tmod 256, ()))
      else
        bif op == 6 then
          bif decide (a < b) then
            some ((Int.tmod 1 256, ()))
          else
            some (((IntKind.i64.wrap (IntKind.i64.wrap (a - b) + 256)).tmod 256, ()))
        else
          some (((IntKind.i64.wrap (IntKind.i64.wrap (a - b) + 256)).tmod 256, ()))
    else
      bif op == 5 then
        bif op == 6 then
          bif decide (a < b) then
            some ((Int.tmod 1 256, ()))
          else
            some (((IntKind.i64.wrap (a * b)).tmod 256, ()))
        else
          some (((IntKind.i64.wrap (a * b)).tmod 256, ()))
      else
        bif op == 6 then
          bif decide (a < b) then
            some ((Int.tmod 1 256, ()))
          else
            some (((IntKind.i64.wrap (a + b)).tmod 256, ()))
        else
          some (((IntKind.i64.wrap (a + b)).tmod 256, ()))
  else
    bif op == 4 then
      bif op == 5 then
        bif op == 6 then
          bif decide (a < b) then
            some ((Int.tmod 1 256, ()))
          else
            some (((IntKind.i64.wrap (a * b)).tmod 256, ()))
        else
          some (((IntKind.i64.wrap (a * b)).tmod 256, ()))
      else
        bif op == 6 then
          bif decide (a < b) then
            some ((Int.tmod 1 256, ()))
          else
            some (((IntKind.i64.wrap (IntKind.i64.wrap (a - b) + 256)).tmod 256, ()))
        else
          some (((IntKind.i64.wrap (IntKind.i64.wrap (a - b) + 256)).tmod 256, ()))
    else
      bif op == 5 then
        bif op == 6 then
          bif decide (a < b) then
            some ((Int.tmod 1 256, ()))
          else
            some (((IntKind.i64.wrap (a * b)).tmod 256, ()))
        else
          some (((IntKind.i64.wrap (a * b)).tmod 256, ()))
      else
        bif op == 6 then
          bif decide (a < b) then
            some ((Int.tmod 1 256, ()))
          else
            some ((Int.tmod 0 256, ()))
        else
          some ((Int.tmod 0 256, ()))
def ref_Op_f (nf : Nat) (op : Int) (a : Int) (b : Int) : Option (Int × Unit) := ref_Op_p nf  op a b
theorem ref_Op_eq (nf : Nat) (op : Int) (a : Int) (b : Int) : runF tab (ref_Op_phi nf) ref_Op_keep nf [PT.val (Ty.int IntKind.i64) (Md.bor true false), PT.val (Ty.int IntKind.i64) (Md.bor true false), PT.val (Ty.int IntKind.i64) (Md.bor true false)] [(Ty.int IntKind.i64, Md.bor false true)] (resL ([]) Try.f114) (codeOf Try.f114) ⟨op, a, b, ()⟩ = ref_Op_f nf op a b := by
  have h : runF tab (ref_Op_phi nf) ref_Op_keep nf [PT.val (Ty.int IntKind.i64) (Md.bor true false), PT.val (Ty.int IntKind.i64) (Md.bor true false), PT.val (Ty.int IntKind.i64) (Md.bor true false)] [(Ty.int IntKind.i64, Md.bor false true)] (resL ([]) Try.f114) (codeOf Try.f114) ⟨op, a, b, ()⟩ = ref_Op_p nf  op a b := by kernel_rfl
  exact h
def ref_Op_F (nf : Nat) (x : denPs [.val (.int .i64) (.bor true false), .val (.int .i64) (.bor true false), .val (.int .i64) (.bor true false)]) : Option (denL [(.int .i64, .bor false true)]) := ref_Op_f nf x.1 x.2.1 x.2.2.1
def ref_Op_C (nf : Nat) : Contract := ⟨[.val (.int .i64) (.bor true false), .val (.int .i64) (.bor true false), .val (.int .i64) (.bor true false)], [(.int .i64, .bor false true)], ref_Op_F nf, []⟩
theorem ref_Op_ok : FnOK Try.prog 114 := ⟨Try.f114, codeOf Try.f114, Try.func114, by kernel_rfl, by kernel_rfl⟩
theorem ref_Op_holds (nf : Nat) : Contract.Holds Try.prog 114 (ref_Op_C nf) :=
  fn_holds (Φ := ref_Op_phi nf) (keep := ref_Op_keep) (n := nf) ⟨tabs.1, tabs.2, ctx_nil, mixed, bk_ok bkls rfl⟩ (fn := Try.f114) ⟨Try.func114, by kernel_rfl, by kernel_rfl, by kernel_rfl⟩ (fun x => ref_Op_eq nf x.1 x.2.1 x.2.2.1)

/-! codemason codemasonref.Makes -/
def ref_Makes_phi (nf : Nat) : Nat → Option Contract := lookC [(114, ref_Op_C nf)]
def ref_Makes_keep : Nat → List Nat := lookK []
def ref_Makes_p (nf : Nat)  (s : Int × Int × Int × Int × Int × Unit) (v : List Int) : Option (Int × Unit) :=
  bif s.fst == 1 then
    some ((s.snd.snd.snd.snd.fst, ()))
  else
    bif s.fst == 2 then
      bif inb s.snd.snd.snd.snd.fst v.length then
        some ((v.getD (Int.toNat s.snd.snd.snd.snd.fst) 0, ()))
      else
        none
    else
      bif inb s.snd.snd.fst v.length then
        bif inb s.snd.snd.snd.fst v.length then
          bif s.fst == 5 then
            bif v.getD (Int.toNat s.snd.snd.fst) 0 == 0 then
              some ((0, ()))
            else
              bif v.getD (Int.toNat s.snd.snd.snd.fst) 0 == 0 then
                some ((0, ()))
              else
                bif v.getD (Int.toNat s.snd.snd.fst) 0 == (-1) then
                  some ((-1, ()))
                else
                  bif v.getD (Int.toNat s.snd.snd.snd.fst) 0 == (-1) then
                    some ((-1, ()))
                  else
                    Option.bind (ref_Op_f nf s.fst (v.getD (Int.toNat s.snd.snd.fst) 0) (v.getD (Int.toNat s.snd.snd.snd.fst) 0)) fun r =>
                    some ((r.fst, ()))
          else
            bif v.getD (Int.toNat s.snd.snd.fst) 0 == (-1) then
              some ((-1, ()))
            else
              bif v.getD (Int.toNat s.snd.snd.snd.fst) 0 == (-1) then
                some ((-1, ()))
              else
                Option.bind (ref_Op_f nf s.fst (v.getD (Int.toNat s.snd.snd.fst) 0) (v.getD (Int.toNat s.snd.snd.snd.fst) 0)) fun r2 =>
                some ((r2.fst, ()))
        else
          none
      else
        none
def ref_Makes_f (nf : Nat) (s : Int × Int × Int × Int × Int × Unit) (v : List Int) : Option (Int × Unit) := ref_Makes_p nf  s v
theorem ref_Makes_eq (nf : Nat) (s : Int × Int × Int × Int × Int × Unit) (v : List Int) : runF tab (ref_Makes_phi nf) ref_Makes_keep nf [PT.val tI5fn1 (Md.bor true false), PT.val (Ty.int IntKind.i64).sl (Md.bor true false)] [(Ty.int IntKind.i64, Md.bor false true)] (resL ([]) Try.f90) (codeOf Try.f90) ⟨s, v, ()⟩ = ref_Makes_f nf s v := by
  have h : runF tab (ref_Makes_phi nf) ref_Makes_keep nf [PT.val tI5fn1 (Md.bor true false), PT.val (Ty.int IntKind.i64).sl (Md.bor true false)] [(Ty.int IntKind.i64, Md.bor false true)] (resL ([]) Try.f90) (codeOf Try.f90) ⟨s, v, ()⟩ = ref_Makes_p nf  s v := by kernel_rfl
  exact h
def ref_Makes_F (nf : Nat) (x : denPs [.val tI5fn1 (.bor true false), .val (.sl (.int .i64)) (.bor true false)]) : Option (denL [(.int .i64, .bor false true)]) := ref_Makes_f nf x.1 x.2.1
def ref_Makes_C (nf : Nat) : Contract := ⟨[.val tI5fn1 (.bor true false), .val (.sl (.int .i64)) (.bor true false)], [(.int .i64, .bor false true)], ref_Makes_F nf, []⟩
theorem ref_Makes_ok : FnOK Try.prog 90 := ⟨Try.f90, codeOf Try.f90, Try.func90, by kernel_rfl, by kernel_rfl⟩
theorem ref_Makes_holds (nf : Nat) : Contract.Holds Try.prog 90 (ref_Makes_C nf) :=
  fn_holds (Φ := ref_Makes_phi nf) (keep := ref_Makes_keep) (n := nf) ⟨tabs.1, tabs.2, (ctx_cons ref_Op_ok (ref_Op_holds nf) ctx_nil), mixed, bk_ok bkls rfl⟩ (fn := Try.f90) ⟨Try.func90, by kernel_rfl, by kernel_rfl, by kernel_rfl⟩ (fun x => ref_Makes_eq nf x.1 x.2.1)

/-! codemason codemasonref.Behind -/
def ref_Behind_phi (nf : Nat) : Nat → Option Contract := lookC [(90, ref_Makes_C nf)]
def ref_Behind_keep : Nat → List Nat := lookK [(0, [0, 1, 9, 10, 11, 12])]
def ref_Behind_b0 (nf : Nat) (code' : TStfn1) (g0 : List Int → Int → Option (List Int × Unit)) (v2 : List Int) (t12 : Int) : Option (List Int × Unit) :=
  bif decide (t12 < (↑code'.length : Int)) then
    bif inb t12 code'.length then
      Option.bind (ref_Makes_f nf (code'.getD t12.toNat (0, 0, 0, 0, 0, ())) v2) fun r =>
      bif inb (code'.getD t12.toNat (0, 0, 0, 0, 0, ())).snd.fst v2.length then
        g0 (v2.set (Int.toNat (code'.getD t12.toNat (0, 0, 0, 0, 0, ())).snd.fst) r.fst) (IntKind.i64.wrap (t12 + 1))
      else
        none
    else
      none
  else
    some ((v2, ()))
def ref_Behind_p (nf : Nat) (l0 : TStfn1 → List Int → Int → Option (List Int × Unit)) (code' : TStfn1) (v : List Int) : Option (List Int × Unit) :=
  bif bimp false !v.isEmpty && ((List.length ([] : List Unit)) + v.length).ble lim then
    l0 code' ([] ++ v) 0
  else
    none
def ref_Behind_l0 (nf : Nat) (code' : TStfn1) : Nat → List Int → Int → Option (List Int × Unit)
  | 0, _, _ => none
  | fu + 1, v2, t12 => ref_Behind_b0 nf  code'  (ref_Behind_l0 nf code'  fu) v2 t12
def ref_Behind_f (nf : Nat) (code' : TStfn1) (v : List Int) : Option (List Int × Unit) := ref_Behind_p nf (fun p0 v0 v1 => ref_Behind_l0 nf p0 nf v0 v1) code' v
noncomputable def ref_Behind_L0 (nf : Nat) : LC (List Int × Unit) := theL (findL tab (ref_Behind_phi nf) (fun _ F => iter nf F) ref_Behind_keep 0 0 (codeOf Try.f84) (fin tab [((Ty.int IntKind.i64).sl, Md.own false (Md.bor false false))] (resL ([]) Try.f84)) (fun _ _ => none) (fin tab [((Ty.int IntKind.i64).sl, Md.own false (Md.bor false false))] (resL ([]) Try.f84)))
def ref_Behind_m0 (code' : TStfn1) (v2 : List Int) (t12 : Int) : St := ⟨fresh, [(0, AV.v tI5fn1.sl (Md.bor true false) code'), (1, AV.ow 500001 (Ty.int IntKind.i64).sl (Md.own false (Md.bor false false)) v2), (9, AV.dead), (10, AV.v tI5fn1.sl (Md.bor true false) code'), (11, AV.v (Ty.int IntKind.i64) (Md.bor false true) (↑code'.length : Int)), (12, AV.v (Ty.int IntKind.i64) (Md.bor false true) t12)]⟩
theorem ref_Behind_h0 (nf : Nat)  (code' : TStfn1) (fu : Nat) (v2 : List Int) (t12 : Int) : iter (fu + 1) (LC.F tab (ref_Behind_phi nf) (fun _ F => iter nf F) ref_Behind_keep 0 (ref_Behind_L0 nf )) (ref_Behind_m0 code' v2 t12) = ref_Behind_b0 nf  code'  (fun v2 t12 => iter fu (LC.F tab (ref_Behind_phi nf) (fun _ F => iter nf F) ref_Behind_keep 0 (ref_Behind_L0 nf )) (ref_Behind_m0 code' v2 t12)) v2 t12 := by kernel_rfl
theorem ref_Behind_e0 (nf : Nat)  (code' : TStfn1) : ∀ (fu : Nat) (v2 : List Int) (t12 : Int), iter fu (LC.F tab (ref_Behind_phi nf) (fun _ F => iter nf F) ref_Behind_keep 0 (ref_Behind_L0 nf )) (ref_Behind_m0 code' v2 t12) = ref_Behind_l0 nf code'  fu v2 t12 := by
  intro fu
  induction fu with
  | zero => intros; rfl
  | succ fu ih =>
    intro v2 t12
    rw [ref_Behind_h0 nf  code' fu v2 t12]
    simp only [ih]
    rfl
theorem ref_Behind_eq (nf : Nat) (code' : TStfn1) (v : List Int) : runF tab (ref_Behind_phi nf) ref_Behind_keep nf [PT.val tI5fn1.sl (Md.bor true false), PT.val (Ty.int IntKind.i64).sl (Md.bor true false)] [((Ty.int IntKind.i64).sl, Md.own false (Md.bor false false))] (resL ([]) Try.f84) (codeOf Try.f84) ⟨code', v, ()⟩ = ref_Behind_f nf code' v := by
  have h : runF tab (ref_Behind_phi nf) ref_Behind_keep nf [PT.val tI5fn1.sl (Md.bor true false), PT.val (Ty.int IntKind.i64).sl (Md.bor true false)] [((Ty.int IntKind.i64).sl, Md.own false (Md.bor false false))] (resL ([]) Try.f84) (codeOf Try.f84) ⟨code', v, ()⟩ = ref_Behind_p nf (fun p0 v0 v1 => iter nf (LC.F tab (ref_Behind_phi nf) (fun _ F => iter nf F) ref_Behind_keep 0 (ref_Behind_L0 nf)) (ref_Behind_m0 p0 v0 v1)) code' v := by kernel_rfl
  rw [h]
  simp only [ref_Behind_e0]
  rfl
def ref_Behind_F (nf : Nat) (x : denPs [.val (.sl tI5fn1) (.bor true false), .val (.sl (.int .i64)) (.bor true false)]) : Option (denL [(.sl (.int .i64), .own false (.bor false false))]) := ref_Behind_f nf x.1 x.2.1
def ref_Behind_C (nf : Nat) : Contract := ⟨[.val (.sl tI5fn1) (.bor true false), .val (.sl (.int .i64)) (.bor true false)], [(.sl (.int .i64), .own false (.bor false false))], ref_Behind_F nf, []⟩
theorem ref_Behind_ok : FnOK Try.prog 84 := ⟨Try.f84, codeOf Try.f84, Try.func84, by kernel_rfl, by kernel_rfl⟩
theorem ref_Behind_holds (nf : Nat) : Contract.Holds Try.prog 84 (ref_Behind_C nf) :=
  fn_holds (Φ := ref_Behind_phi nf) (keep := ref_Behind_keep) (n := nf) ⟨tabs.1, tabs.2, (ctx_cons ref_Makes_ok (ref_Makes_holds nf) ctx_nil), mixed, bk_ok bkls rfl⟩ (fn := Try.f84) ⟨Try.func84, by kernel_rfl, by kernel_rfl, by kernel_rfl⟩ (fun x => ref_Behind_eq nf x.1 x.2.1)

/-! codemason codemasonref.Goings -/
def ref_Goings_phi (nf : Nat) : Nat → Option Contract := lookC []
def ref_Goings_keep : Nat → List Nat := lookK []
def ref_Goings_p (nf : Nat)  (b : TStfn1 × Int × Int × Int × Unit) (v : List Int) : Option (List Int × Unit) :=
  bif b.snd.fst == (-1) then
    bif b.snd.snd.fst == (-1) then
      some (([], ()))
    else
      bif b.snd.fst == (-1) then
        some (([b.snd.snd.fst], ()))
      else
        bif inb b.snd.fst v.length then
          bif decide (v.getD (Int.toNat b.snd.fst) 0 > 0) then
            some (([b.snd.snd.fst], ()))
          else
            bif inb b.snd.fst v.length then
              bif v.getD (Int.toNat b.snd.fst) 0 == 0 then
                some (([b.snd.snd.snd.fst], ()))
              else
                some (([b.snd.snd.fst, b.snd.snd.snd.fst], ()))
            else
              none
        else
          none
  else
    bif b.snd.fst == (-1) then
      some (([b.snd.snd.fst], ()))
    else
      bif inb b.snd.fst v.length then
        bif decide (v.getD (Int.toNat b.snd.fst) 0 > 0) then
          some (([b.snd.snd.fst], ()))
        else
          bif inb b.snd.fst v.length then
            bif v.getD (Int.toNat b.snd.fst) 0 == 0 then
              some (([b.snd.snd.snd.fst], ()))
            else
              some (([b.snd.snd.fst, b.snd.snd.snd.fst], ()))
          else
            none
      else
        none
def ref_Goings_f (nf : Nat) (b : TStfn1 × Int × Int × Int × Unit) (v : List Int) : Option (List Int × Unit) := ref_Goings_p nf  b v
theorem ref_Goings_eq (nf : Nat) (b : TStfn1 × Int × Int × Int × Unit) (v : List Int) : runF tab (ref_Goings_phi nf) ref_Goings_keep nf [PT.val (tI5fn1.sl.pair ((Ty.int IntKind.i64).pair tI2fn1)) (Md.bor true false), PT.val (Ty.int IntKind.i64).sl (Md.bor true false)] [((Ty.int IntKind.i64).sl, Md.own false (Md.bor false false))] (resL ([]) Try.f85) (codeOf Try.f85) ⟨b, v, ()⟩ = ref_Goings_f nf b v := by
  have h : runF tab (ref_Goings_phi nf) ref_Goings_keep nf [PT.val (tI5fn1.sl.pair ((Ty.int IntKind.i64).pair tI2fn1)) (Md.bor true false), PT.val (Ty.int IntKind.i64).sl (Md.bor true false)] [((Ty.int IntKind.i64).sl, Md.own false (Md.bor false false))] (resL ([]) Try.f85) (codeOf Try.f85) ⟨b, v, ()⟩ = ref_Goings_p nf  b v := by kernel_rfl
  exact h
def ref_Goings_F (nf : Nat) (x : denPs [.val (.pair (.sl tI5fn1) tI3fn1) (.bor true false), .val (.sl (.int .i64)) (.bor true false)]) : Option (denL [(.sl (.int .i64), .own false (.bor false false))]) := ref_Goings_f nf x.1 x.2.1
def ref_Goings_C (nf : Nat) : Contract := ⟨[.val (.pair (.sl tI5fn1) tI3fn1) (.bor true false), .val (.sl (.int .i64)) (.bor true false)], [(.sl (.int .i64), .own false (.bor false false))], ref_Goings_F nf, []⟩
theorem ref_Goings_ok : FnOK Try.prog 85 := ⟨Try.f85, codeOf Try.f85, Try.func85, by kernel_rfl, by kernel_rfl⟩
theorem ref_Goings_holds (nf : Nat) : Contract.Holds Try.prog 85 (ref_Goings_C nf) :=
  fn_holds (Φ := ref_Goings_phi nf) (keep := ref_Goings_keep) (n := nf) ⟨tabs.1, tabs.2, ctx_nil, mixed, bk_ok bkls rfl⟩ (fn := Try.f85) ⟨Try.func85, by kernel_rfl, by kernel_rfl, by kernel_rfl⟩ (fun x => ref_Goings_eq nf x.1 x.2.1)

/-! codemason codemasonref.Known -/
def ref_Known_tab : Tab := ⟨lookT tyL, lookM ([(26, .own false (.own true (.bor false true)))] ++ mdL), hasT [185], hasT [9, 10, 11], fun _ => none, lookB bkl⟩
theorem ref_Known_tabs : TabOK Try.prog ref_Known_tab ∧ EqOK Try.prog ref_Known_tab := tab_ok (by kernel_rfl) (by kernel_rfl)
def ref_Known_phi (nf : Nat) : Nat → Option Contract := lookC [(22, ref_Lists_C nf), (84, ref_Behind_C nf), (85, ref_Goings_C nf)]
def ref_Known_keep : Nat → List Nat := lookK [(6, [0, 1, 5, 6, 7, 8, 10, 11, 14, 17, 43, 49, 50, 51, 95]), (4, [0, 1, 5, 6, 7, 8, 14, 17, 43, 49, 50, 51, 95]), (2, [0, 1, 5, 6, 7, 14, 17, 95]), (0, [0, 1, 5, 14, 95])]
def ref_Known_b0 (nf : Nat) (l2 : TBlfn1 → List Int → List (List Int) → List (List Int) → Int → Option (List (List Int) × Unit)) (p : TBlfn1) (have' : List Int) (g0 : List (List Int) → Option (List (List Int) × Unit)) (in' : List (List Int)) : Option (List (List Int) × Unit) :=
  bif decide (0 ≤ (↑p.length : Int)) && decide ((↑p.length : Int) ≤ (↑p.length : Int)) && decide ((↑p.length : Int) ≤ (↑lim : Int)) then
    bif bimp false !have'.isEmpty && ((List.length ([] : List Unit)) + have'.length).ble lim then
      bif inb 0 (List.replicate (↑p.length : Int).toNat ([] : List Int)).length then
        bif !([] ++ have').isEmpty then
          l2 p have' in' ((List.replicate (↑p.length : Int).toNat []).set 0 ([] ++ have')) 0
        else
          none
      else
        none
    else
      none
  else
    none
def ref_Known_b2 (nf : Nat) (l4 : TBlfn1 → List Int → Int → List Int × Unit → List (List Int) → List (List Int) → List Int → List Int → Int → Option (List (List Int) × Unit)) (p : TBlfn1) (have' : List Int) (g0 : List (List Int) → Option (List (List Int) × Unit)) (g2 : List (List Int) → List (List Int) → Int → Option (List (List Int) × Unit)) (in'2 : List (List Int)) (next : List (List Int)) (i : Int) : Option (List (List Int) × Unit) :=
  bif decide (i < (↑p.length : Int)) then
    bif inb i in'2.length then
      bif List.isEmpty (in'2.getD i.toNat []) then
        g2 in'2 next (IntKind.i64.wrap (i + 1))
      else
        bif inb i p.length then
          bif inb i in'2.length then
            Option.bind (ref_Behind_f nf ((p.getD i.toNat ([], 0, 0, 0, ())).fst) (in'2.getD i.toNat [])) fun r =>
            bif inb i p.length then
              Option.bind (ref_Goings_f nf (p.getD i.toNat ([], 0, 0, 0, ())) r.fst) fun r2 =>
              l4 p have' i r2 in'2 next r.fst r2.fst 0
            else
              none
          else
            none
        else
          none
    else
      none
  else
    Option.bind (ref_Lists_f nf in'2 next) fun r3 =>
    bif r3.fst then
      some ((in'2, ()))
    else
      g0 next
def ref_Known_b4 (nf : Nat) (l6 : TBlfn1 → List Int → Int → List Int → Int → List Int × Unit → List (List Int) → List (List Int) → List Int → Int → List Int → Option (List (List Int) × Unit)) (p : TBlfn1) (have' : List Int) (i : Int) (r2 : List Int × Unit) (g2 : List (List Int) → List (List Int) → Int → Option (List (List Int) × Unit)) (g0 : List (List Int) → Option (List (List Int) × Unit)) (g4 : List (List Int) → List (List Int) → List Int → List Int → Int → Option (List (List Int) × Unit)) (in'3 : List (List Int)) (next2 : List (List Int)) (v : List Int) (t49 : List Int) (t51 : Int) : Option (List (List Int) × Unit) :=
  bif decide (t51 < (↑(List.length r2.fst) : Int)) then
    bif inb t51 t49.length then
      bif inb (t49.getD t51.toNat 0) next2.length then
        bif List.isEmpty (next2.getD (Int.toNat (t49.getD t51.toNat 0)) []) then
          bif bimp false !v.isEmpty && ((List.length ([] : List Unit)) + v.length).ble lim then
            bif inb (t49.getD t51.toNat 0) next2.length then
              bif !([] ++ v).isEmpty then
                l6 p have' i t49 t51 r2 in'3 (next2.set (Int.toNat (t49.getD t51.toNat 0)) ([] ++ v)) v 0 t49
              else
                none
            else
              none
          else
            none
        else
          l6 p have' i t49 t51 r2 in'3 next2 v 0 t49
      else
        none
    else
      none
  else
    g2 in'3 next2 (IntKind.i64.wrap (i + 1))
def ref_Known_b6 (nf : Nat) (p : TBlfn1) (have' : List Int) (i : Int) (t49 : List Int) (t51 : Int) (r2 : List Int × Unit) (g4 : List (List Int) → List (List Int) → List Int → List Int → Int → Option (List (List Int) × Unit)) (g2 : List (List Int) → List (List Int) → Int → Option (List (List Int) × Unit)) (g0 : List (List Int) → Option (List (List Int) × Unit)) (g6 : List (List Int) → List (List Int) → List Int → Int → List Int → Option (List (List Int) × Unit)) (in'4 : List (List Int)) (next3 : List (List Int)) (v2 : List Int) (k' : Int) (t492 : List Int) : Option (List (List Int) × Unit) :=
  bif decide (k' < (↑v2.length : Int)) then
    bif inb (t49.getD t51.toNat 0) next3.length then
      bif inb k' (List.length (next3.getD (Int.toNat (t49.getD t51.toNat 0)) [])) then
        bif inb k' v2.length then
          bif List.getD (next3.getD (Int.toNat (t49.getD t51.toNat 0)) []) k'.toNat 0 != v2.getD k'.toNat 0 then
            bif inb (t49.getD t51.toNat 0) next3.length then
              bif inb k' (List.length (next3.getD (Int.toNat (t49.getD t51.toNat 0)) [])) then
                g6 in'4 (next3.set (Int.toNat (t49.getD t51.toNat 0)) (List.set (next3.getD (Int.toNat (t49.getD t51.toNat 0)) []) k'.toNat (-1))) v2 (IntKind.i64.wrap (k' + 1)) t492
              else
                none
            else
              none
          else
            g6 in'4 next3 v2 (IntKind.i64.wrap (k' + 1)) t492
        else
          none
      else
        none
    else
      none
  else
    g4 in'4 next3 v2 t492 (IntKind.i64.wrap (t51 + 1))
def ref_Known_p (nf : Nat) (l0 : TBlfn1 → List Int → List (List Int) → Option (List (List Int) × Unit)) (p : TBlfn1) (have' : List Int) : Option (List (List Int) × Unit) :=
  bif decide (0 ≤ (↑p.length : Int)) && decide ((↑p.length : Int) ≤ (↑p.length : Int)) && decide ((↑p.length : Int) ≤ (↑lim : Int)) then
    l0 p have' (List.replicate (↑p.length : Int).toNat [])
  else
    none
def ref_Known_l6 (nf : Nat) (p : TBlfn1) (have' : List Int) (i : Int) (t49 : List Int) (t51 : Int) (r2 : List Int × Unit) (g4 : List (List Int) → List (List Int) → List Int → List Int → Int → Option (List (List Int) × Unit)) (g2 : List (List Int) → List (List Int) → Int → Option (List (List Int) × Unit)) (g0 : List (List Int) → Option (List (List Int) × Unit)) : Nat → List (List Int) → List (List Int) → List Int → Int → List Int → Option (List (List Int) × Unit)
  | 0, _, _, _, _, _ => none
  | fu + 1, in'4, next3, v2, k', t492 => ref_Known_b6 nf  p have' i t49 t51 r2 g4 g2 g0 (ref_Known_l6 nf p have' i t49 t51 r2 g4 g2 g0 fu) in'4 next3 v2 k' t492
def ref_Known_l4 (nf : Nat) (p : TBlfn1) (have' : List Int) (i : Int) (r2 : List Int × Unit) (g2 : List (List Int) → List (List Int) → Int → Option (List (List Int) × Unit)) (g0 : List (List Int) → Option (List (List Int) × Unit)) : Nat → List (List Int) → List (List Int) → List Int → List Int → Int → Option (List (List Int) × Unit)
  | 0, _, _, _, _, _ => none
  | fu + 1, in'3, next2, v, t49, t51 => ref_Known_b4 nf (fun _ _ _ p3 p4 _ v0 v1 v2 v3 v4 => ref_Known_l6 nf p have' i p3 p4 r2 (fun in'3 next2 v t49 t51 => ref_Known_l4 nf p have' i r2 g2 g0 fu in'3 next2 v t49 t51) g2 g0 nf v0 v1 v2 v3 v4) p have' i r2 g2 g0 (ref_Known_l4 nf p have' i r2 g2 g0 fu) in'3 next2 v t49 t51
def ref_Known_l2 (nf : Nat) (p : TBlfn1) (have' : List Int) (g0 : List (List Int) → Option (List (List Int) × Unit)) : Nat → List (List Int) → List (List Int) → Int → Option (List (List Int) × Unit)
  | 0, _, _, _ => none
  | fu + 1, in'2, next, i => ref_Known_b2 nf (fun _ _ p2 p3 v0 v1 v2 v3 v4 => ref_Known_l4 nf p have' p2 p3 (fun in'2 next i => ref_Known_l2 nf p have' g0 fu in'2 next i) g0 nf v0 v1 v2 v3 v4) p have' g0 (ref_Known_l2 nf p have' g0 fu) in'2 next i
def ref_Known_l0 (nf : Nat) (p : TBlfn1) (have' : List Int) : Nat → List (List Int) → Option (List (List Int) × Unit)
  | 0, _ => none
  | fu + 1, in' => ref_Known_b0 nf (fun _ _ v0 v1 v2 => ref_Known_l2 nf p have' (fun in' => ref_Known_l0 nf p have'  fu in') nf v0 v1 v2) p have'  (ref_Known_l0 nf p have'  fu) in'
def ref_Known_f (nf : Nat) (p : TBlfn1) (have' : List Int) : Option (List (List Int) × Unit) := ref_Known_p nf (fun p0 p1 v0 => ref_Known_l0 nf p0 p1 nf v0) p have'
noncomputable def ref_Known_L0 (nf : Nat) : LC (List (List Int) × Unit) := theL (findL ref_Known_tab (ref_Known_phi nf) (fun _ F => iter nf F) ref_Known_keep 0 0 (codeOf Try.f38) (fin ref_Known_tab [((Ty.int IntKind.i64).sl.sl, Md.own false (Md.own true (Md.bor false true)))] (resL ([]) Try.f38)) (fun _ _ => none) (fin ref_Known_tab [((Ty.int IntKind.i64).sl.sl, Md.own false (Md.own true (Md.bor false true)))] (resL ([]) Try.f38)))
def ref_Known_m0 (p : TBlfn1) (have' : List Int) (in' : List (List Int)) : St := ⟨fresh, [(0, AV.v (tI5fn1.sl.pair ((Ty.int IntKind.i64).pair tI2fn1)).sl (Md.bor true false) p), (1, AV.v (Ty.int IntKind.i64).sl (Md.bor true false) have'), (5, AV.ow 500005 (Ty.int IntKind.i64).sl.sl (Md.own false (Md.own true (Md.bor false true))) in'), (14, AV.dead), (95, AV.dead)]⟩
noncomputable def ref_Known_L2 (nf : Nat) (G0 : St → Option (List (List Int) × Unit)) : LC (List (List Int) × Unit) := theL (findL ref_Known_tab (ref_Known_phi nf) (fun _ F => iter nf F) ref_Known_keep 2 0 (ref_Known_L0 nf ).c (fun st => norm (ref_Known_keep 0) st G0) (ref_Known_L0 nf ).Kx (ref_Known_L0 nf ).Kr)
def ref_Known_m2 (p : TBlfn1) (have' : List Int) (in'2 : List (List Int)) (next : List (List Int)) (i : Int) : St := ⟨fresh, [(0, AV.v (tI5fn1.sl.pair ((Ty.int IntKind.i64).pair tI2fn1)).sl (Md.bor true false) p), (1, AV.v (Ty.int IntKind.i64).sl (Md.bor true false) have'), (5, AV.ow 500005 (Ty.int IntKind.i64).sl.sl (Md.own false (Md.own true (Md.bor false true))) in'2), (6, AV.ow 500006 (Ty.int IntKind.i64).sl.sl (Md.own false (Md.own true (Md.bor false true))) next), (7, AV.v (Ty.int IntKind.i64) (Md.bor false true) i), (14, AV.dead), (17, AV.dead), (95, AV.dead)]⟩
noncomputable def ref_Known_L4 (nf : Nat) (G0 : St → Option (List (List Int) × Unit)) (G2 : St → Option (List (List Int) × Unit)) : LC (List (List Int) × Unit) := theL (findL ref_Known_tab (ref_Known_phi nf) (fun _ F => iter nf F) ref_Known_keep 4 2 (ref_Known_L2 nf G0).c (fun st => norm (ref_Known_keep 2) st G2) (ref_Known_L2 nf G0).Kx (ref_Known_L2 nf G0).Kr)
def ref_Known_m4 (p : TBlfn1) (have' : List Int) (i : Int) (r2 : List Int × Unit) (in'3 : List (List Int)) (next2 : List (List Int)) (v : List Int) (t49 : List Int) (t51 : Int) : St := ⟨fresh, [(0, AV.v (tI5fn1.sl.pair ((Ty.int IntKind.i64).pair tI2fn1)).sl (Md.bor true false) p), (1, AV.v (Ty.int IntKind.i64).sl (Md.bor true false) have'), (5, AV.ow 500005 (Ty.int IntKind.i64).sl.sl (Md.own false (Md.own true (Md.bor false true))) in'3), (6, AV.ow 500006 (Ty.int IntKind.i64).sl.sl (Md.own false (Md.own true (Md.bor false true))) next2), (7, AV.v (Ty.int IntKind.i64) (Md.bor false true) i), (8, AV.ow 500008 (Ty.int IntKind.i64).sl (Md.own false (Md.bor false false)) v), (14, AV.dead), (17, AV.dead), (43, AV.dead), (49, AV.ow 500049 (Ty.int IntKind.i64).sl (Md.own false (Md.bor false false)) t49), (50, AV.v (Ty.int IntKind.i64) (Md.bor false true) (↑(List.length r2.fst) : Int)), (51, AV.v (Ty.int IntKind.i64) (Md.bor false true) t51), (95, AV.dead)]⟩
noncomputable def ref_Known_L6 (nf : Nat) (G0 : St → Option (List (List Int) × Unit)) (G2 : St → Option (List (List Int) × Unit)) (G4 : St → Option (List (List Int) × Unit)) : LC (List (List Int) × Unit) := theL (findL ref_Known_tab (ref_Known_phi nf) (fun _ F => iter nf F) ref_Known_keep 6 4 (ref_Known_L4 nf G0 G2).c (fun st => norm (ref_Known_keep 4) st G4) (ref_Known_L4 nf G0 G2).Kx (ref_Known_L4 nf G0 G2).Kr)
def ref_Known_m6 (p : TBlfn1) (have' : List Int) (i : Int) (t49 : List Int) (t51 : Int) (r2 : List Int × Unit) (in'4 : List (List Int)) (next3 : List (List Int)) (v2 : List Int) (k' : Int) (t492 : List Int) : St := ⟨fresh, [(0, AV.v (tI5fn1.sl.pair ((Ty.int IntKind.i64).pair tI2fn1)).sl (Md.bor true false) p), (1, AV.v (Ty.int IntKind.i64).sl (Md.bor true false) have'), (5, AV.ow 500005 (Ty.int IntKind.i64).sl.sl (Md.own false (Md.own true (Md.bor false true))) in'4), (6, AV.ow 500006 (Ty.int IntKind.i64).sl.sl (Md.own false (Md.own true (Md.bor false true))) next3), (7, AV.v (Ty.int IntKind.i64) (Md.bor false true) i), (8, AV.ow 500008 (Ty.int IntKind.i64).sl (Md.own false (Md.bor false false)) v2), (10, AV.v (Ty.int IntKind.i64) (Md.bor false true) (t49.getD t51.toNat 0)), (11, AV.v (Ty.int IntKind.i64) (Md.bor false true) k'), (14, AV.dead), (17, AV.dead), (43, AV.dead), (49, AV.ow 500049 (Ty.int IntKind.i64).sl (Md.own false (Md.bor false false)) t492), (50, AV.v (Ty.int IntKind.i64) (Md.bor false true) (↑(List.length r2.fst) : Int)), (51, AV.v (Ty.int IntKind.i64) (Md.bor false true) t51), (95, AV.dead)]⟩
theorem ref_Known_h6 (nf : Nat) (G0 : St → Option (List (List Int) × Unit)) (G2 : St → Option (List (List Int) × Unit)) (G4 : St → Option (List (List Int) × Unit)) (p : TBlfn1) (have' : List Int) (i : Int) (t49 : List Int) (t51 : Int) (r2 : List Int × Unit) (fu : Nat) (in'4 : List (List Int)) (next3 : List (List Int)) (v2 : List Int) (k' : Int) (t492 : List Int) : iter (fu + 1) (LC.F ref_Known_tab (ref_Known_phi nf) (fun _ F => iter nf F) ref_Known_keep 6 (ref_Known_L6 nf G0 G2 G4)) (ref_Known_m6 p have' i t49 t51 r2 in'4 next3 v2 k' t492) = ref_Known_b6 nf  p have' i t49 t51 r2 (fun in'3 next2 v t49 t51 => G4 (ref_Known_m4 p have' i r2 in'3 next2 v t49 t51)) (fun in'2 next i => G2 (ref_Known_m2 p have' in'2 next i)) (fun in' => G0 (ref_Known_m0 p have' in')) (fun in'4 next3 v2 k' t492 => iter fu (LC.F ref_Known_tab (ref_Known_phi nf) (fun _ F => iter nf F) ref_Known_keep 6 (ref_Known_L6 nf G0 G2 G4)) (ref_Known_m6 p have' i t49 t51 r2 in'4 next3 v2 k' t492)) in'4 next3 v2 k' t492 := by kernel_rfl
theorem ref_Known_e6 (nf : Nat) (G0 : St → Option (List (List Int) × Unit)) (G2 : St → Option (List (List Int) × Unit)) (G4 : St → Option (List (List Int) × Unit)) (p : TBlfn1) (have' : List Int) (i : Int) (t49 : List Int) (t51 : Int) (r2 : List Int × Unit) : ∀ (fu : Nat) (in'4 : List (List Int)) (next3 : List (List Int)) (v2 : List Int) (k' : Int) (t492 : List Int), iter fu (LC.F ref_Known_tab (ref_Known_phi nf) (fun _ F => iter nf F) ref_Known_keep 6 (ref_Known_L6 nf G0 G2 G4)) (ref_Known_m6 p have' i t49 t51 r2 in'4 next3 v2 k' t492) = ref_Known_l6 nf p have' i t49 t51 r2 (fun in'3 next2 v t49 t51 => G4 (ref_Known_m4 p have' i r2 in'3 next2 v t49 t51)) (fun in'2 next i => G2 (ref_Known_m2 p have' in'2 next i)) (fun in' => G0 (ref_Known_m0 p have' in')) fu in'4 next3 v2 k' t492 := by
  intro fu
  induction fu with
  | zero => intros; rfl
  | succ fu ih =>
    intro in'4 next3 v2 k' t492
    rw [ref_Known_h6 nf G0 G2 G4 p have' i t49 t51 r2 fu in'4 next3 v2 k' t492]
    simp only [ih]
    rfl
theorem ref_Known_h4 (nf : Nat) (G0 : St → Option (List (List Int) × Unit)) (G2 : St → Option (List (List Int) × Unit)) (p : TBlfn1) (have' : List Int) (i : Int) (r2 : List Int × Unit) (fu : Nat) (in'3 : List (List Int)) (next2 : List (List Int)) (v : List Int) (t49 : List Int) (t51 : Int) : iter (fu + 1) (LC.F ref_Known_tab (ref_Known_phi nf) (fun _ F => iter nf F) ref_Known_keep 4 (ref_Known_L4 nf G0 G2)) (ref_Known_m4 p have' i r2 in'3 next2 v t49 t51) = ref_Known_b4 nf (fun _ _ _ p3 p4 _ v0 v1 v2 v3 v4 => iter nf (LC.F ref_Known_tab (ref_Known_phi nf) (fun _ F => iter nf F) ref_Known_keep 6 (ref_Known_L6 nf G0 G2 (iter fu (LC.F ref_Known_tab (ref_Known_phi nf) (fun _ F => iter nf F) ref_Known_keep 4 (ref_Known_L4 nf G0 G2))))) (ref_Known_m6 p have' i p3 p4 r2 v0 v1 v2 v3 v4)) p have' i r2 (fun in'2 next i => G2 (ref_Known_m2 p have' in'2 next i)) (fun in' => G0 (ref_Known_m0 p have' in')) (fun in'3 next2 v t49 t51 => iter fu (LC.F ref_Known_tab (ref_Known_phi nf) (fun _ F => iter nf F) ref_Known_keep 4 (ref_Known_L4 nf G0 G2)) (ref_Known_m4 p have' i r2 in'3 next2 v t49 t51)) in'3 next2 v t49 t51 := by kernel_rfl
theorem ref_Known_e4 (nf : Nat) (G0 : St → Option (List (List Int) × Unit)) (G2 : St → Option (List (List Int) × Unit)) (p : TBlfn1) (have' : List Int) (i : Int) (r2 : List Int × Unit) : ∀ (fu : Nat) (in'3 : List (List Int)) (next2 : List (List Int)) (v : List Int) (t49 : List Int) (t51 : Int), iter fu (LC.F ref_Known_tab (ref_Known_phi nf) (fun _ F => iter nf F) ref_Known_keep 4 (ref_Known_L4 nf G0 G2)) (ref_Known_m4 p have' i r2 in'3 next2 v t49 t51) = ref_Known_l4 nf p have' i r2 (fun in'2 next i => G2 (ref_Known_m2 p have' in'2 next i)) (fun in' => G0 (ref_Known_m0 p have' in')) fu in'3 next2 v t49 t51 := by
  intro fu
  induction fu with
  | zero => intros; rfl
  | succ fu ih =>
    intro in'3 next2 v t49 t51
    rw [ref_Known_h4 nf G0 G2 p have' i r2 fu in'3 next2 v t49 t51]
    simp only [ih, ref_Known_e6]
    rfl
theorem ref_Known_h2 (nf : Nat) (G0 : St → Option (List (List Int) × Unit)) (p : TBlfn1) (have' : List Int) (fu : Nat) (in'2 : List (List Int)) (next : List (List Int)) (i : Int) : iter (fu + 1) (LC.F ref_Known_tab (ref_Known_phi nf) (fun _ F => iter nf F) ref_Known_keep 2 (ref_Known_L2 nf G0)) (ref_Known_m2 p have' in'2 next i) = ref_Known_b2 nf (fun _ _ p2 p3 v0 v1 v2 v3 v4 => iter nf (LC.F ref_Known_tab (ref_Known_phi nf) (fun _ F => iter nf F) ref_Known_keep 4 (ref_Known_L4 nf G0 (iter fu (LC.F ref_Known_tab (ref_Known_phi nf) (fun _ F => iter nf F) ref_Known_keep 2 (ref_Known_L2 nf G0))))) (ref_Known_m4 p have' p2 p3 v0 v1 v2 v3 v4)) p have' (fun in' => G0 (ref_Known_m0 p have' in')) (fun in'2 next i => iter fu (LC.F ref_Known_tab (ref_Known_phi nf) (fun _ F => iter nf F) ref_Known_keep 2 (ref_Known_L2 nf G0)) (ref_Known_m2 p have' in'2 next i)) in'2 next i := by kernel_rfl
theorem ref_Known_e2 (nf : Nat) (G0 : St → Option (List (List Int) × Unit)) (p : TBlfn1) (have' : List Int) : ∀ (fu : Nat) (in'2 : List (List Int)) (next : List (List Int)) (i : Int), iter fu (LC.F ref_Known_tab (ref_Known_phi nf) (fun _ F => iter nf F) ref_Known_keep 2 (ref_Known_L2 nf G0)) (ref_Known_m2 p have' in'2 next i) = ref_Known_l2 nf p have' (fun in' => G0 (ref_Known_m0 p have' in')) fu in'2 next i := by
  intro fu
  induction fu with
  | zero => intros; rfl
  | succ fu ih =>
    intro in'2 next i
    rw [ref_Known_h2 nf G0 p have' fu in'2 next i]
    simp only [ih, ref_Known_e4]
    rfl
theorem ref_Known_h0 (nf : Nat)  (p : TBlfn1) (have' : List Int) (fu : Nat) (in' : List (List Int)) : iter (fu + 1) (LC.F ref_Known_tab (ref_Known_phi nf) (fun _ F => iter nf F) ref_Known_keep 0 (ref_Known_L0 nf )) (ref_Known_m0 p have' in') = ref_Known_b0 nf (fun _ _ v0 v1 v2 => iter nf (LC.F ref_Known_tab (ref_Known_phi nf) (fun _ F => iter nf F) ref_Known_keep 2 (ref_Known_L2 nf (iter fu (LC.F ref_Known_tab (ref_Known_phi nf) (fun _ F => iter nf F) ref_Known_keep 0 (ref_Known_L0 nf ))))) (ref_Known_m2 p have' v0 v1 v2)) p have'  (fun in' => iter fu (LC.F ref_Known_tab (ref_Known_phi nf) (fun _ F => iter nf F) ref_Known_keep 0 (ref_Known_L0 nf )) (ref_Known_m0 p have' in')) in' := by kernel_rfl
theorem ref_Known_e0 (nf : Nat)  (p : TBlfn1) (have' : List Int) : ∀ (fu : Nat) (in' : List (List Int)), iter fu (LC.F ref_Known_tab (ref_Known_phi nf) (fun _ F => iter nf F) ref_Known_keep 0 (ref_Known_L0 nf )) (ref_Known_m0 p have' in') = ref_Known_l0 nf p have'  fu in' := by
  intro fu
  induction fu with
  | zero => intros; rfl
  | succ fu ih =>
    intro in'
    rw [ref_Known_h0 nf  p have' fu in']
    simp only [ih, ref_Known_e2]
    rfl
theorem ref_Known_eq (nf : Nat) (p : TBlfn1) (have' : List Int) : runF ref_Known_tab (ref_Known_phi nf) ref_Known_keep nf [PT.val (tI5fn1.sl.pair ((Ty.int IntKind.i64).pair tI2fn1)).sl (Md.bor true false), PT.val (Ty.int IntKind.i64).sl (Md.bor true false)] [((Ty.int IntKind.i64).sl.sl, Md.own false (Md.own true (Md.bor false true)))] (resL ([]) Try.f38) (codeOf Try.f38) ⟨p, have', ()⟩ = ref_Known_f nf p have' := by
  have h : runF ref_Known_tab (ref_Known_phi nf) ref_Known_keep nf [PT.val (tI5fn1.sl.pair ((Ty.int IntKind.i64).pair tI2fn1)).sl (Md.bor true false), PT.val (Ty.int IntKind.i64).sl (Md.bor true false)] [((Ty.int IntKind.i64).sl.sl, Md.own false (Md.own true (Md.bor false true)))] (resL ([]) Try.f38) (codeOf Try.f38) ⟨p, have', ()⟩ = ref_Known_p nf (fun p0 p1 v0 => iter nf (LC.F ref_Known_tab (ref_Known_phi nf) (fun _ F => iter nf F) ref_Known_keep 0 (ref_Known_L0 nf)) (ref_Known_m0 p0 p1 v0)) p have' := by kernel_rfl
  rw [h]
  simp only [ref_Known_e0]
  rfl
def ref_Known_F (nf : Nat) (x : denPs [.val (.sl (.pair (.sl tI5fn1) tI3fn1)) (.bor true false), .val (.sl (.int .i64)) (.bor true false)]) : Option (denL [(.sl (.sl (.int .i64)), .own false (.own true (.bor false true)))]) := ref_Known_f nf x.1 x.2.1
def ref_Known_C (nf : Nat) : Contract := ⟨[.val (.sl (.pair (.sl tI5fn1) tI3fn1)) (.bor true false), .val (.sl (.int .i64)) (.bor true false)], [(.sl (.sl (.int .i64)), .own false (.own true (.bor false true)))], ref_Known_F nf, []⟩
theorem ref_Known_ok : FnOK Try.prog 38 := ⟨Try.f38, codeOf Try.f38, Try.func38, by kernel_rfl, by kernel_rfl⟩
theorem ref_Known_holds (nf : Nat) : Contract.Holds Try.prog 38 (ref_Known_C nf) :=
  fn_holds (Φ := ref_Known_phi nf) (keep := ref_Known_keep) (n := nf) ⟨ref_Known_tabs.1, ref_Known_tabs.2, (ctx_cons ref_Lists_ok (ref_Lists_holds nf) (ctx_cons ref_Behind_ok (ref_Behind_holds nf) (ctx_cons ref_Goings_ok (ref_Goings_holds nf) ctx_nil))), mixed, bk_ok bkls rfl⟩ (fn := Try.f38) ⟨Try.func38, by kernel_rfl, by kernel_rfl, by kernel_rfl⟩ (fun x => ref_Known_eq nf x.1 x.2.1)

/-! codemason codemasonref.Folds -/
def ref_Folds_tab : Tab := ⟨lookT tyL, lookM ([(26, .own false (.own true (.bor false true)))] ++ mdL), hasT [185], hasT [9, 10, 11], fun _ => none, lookB bkl⟩
theorem ref_Folds_tabs : TabOK Try.prog ref_Folds_tab ∧ EqOK Try.prog ref_Folds_tab := tab_ok (by kernel_rfl) (by kernel_rfl)
def ref_Folds_phi (nf : Nat) : Nat → Option Contract := lookC [(38, ref_Known_C nf), (85, ref_Goings_C nf), (90, ref_Makes_C nf)]
def ref_Folds_keep : Nat → List Nat := lookK [(2, [0, 5, 7, 8, 14, 15, 16, 19, 20, 29, 31, 32, 33, 34, 35, 85]), (0, [0, 5, 14, 15, 16, 85]), (1000002, [0])]
def ref_Folds_b0 (nf : Nat) (l2 : TBlfn1 → List (List Int) × Unit → Int → TBlfn1 → List Int → TStfn1 × Int × Int × Int × Unit → List (List Int) → Int → Option (TBlfn1 × Unit)) (p : TBlfn1) (r : List (List Int) × Unit) (g0 : TBlfn1 → List (List Int) → Int → Option (TBlfn1 × Unit)) (out : TBlfn1) (t14 : List (List Int)) (t16 : Int) : Option (TBlfn1 × Unit) :=
  bif decide (t16 < (↑(List.length r.fst) : Int)) then
    bif inb t16 t14.length then
      bif !List.isEmpty (t14.getD t16.toNat []) then
        bif inb t16 p.length then
          bif inb t16 p.length then
            bif decide (0 < (↑(List.length (p.getD t16.toNat ([], 0, 0, 0, ())).fst) : Int)) then
              bif inb 0 (List.length (p.getD t16.toNat ([], 0, 0, 0, ())).fst) then
                Option.bind (ref_Makes_f nf (List.getD (p.getD t16.toNat ([], 0, 0, 0, ())).fst 0 (0, 0, 0, 0, 0, ())) (t14.getD t16.toNat [])) fun r2 =>
                bif bimp false !List.isEmpty (t14.getD t16.toNat []) && ((List.length ([] : List Unit)) + List.length (t14.getD t16.toNat [])).ble lim then
                  bif inb (List.getD (p.getD t16.toNat ([], 0, 0, 0, ())).fst 0 (0, 0, 0, 0, 0, ())).snd.fst ([] ++ t14.getD t16.toNat ([] : List Int)).length then
                    bif decide (r2.fst ≥ 0) then
                      l2 p r t16 out (([] ++ t14.getD t16.toNat []).set (Int.toNat (List.getD (p.getD t16.toNat ([], 0, 0, 0, ())).fst 0 (0, 0, 0, 0, 0, ())).snd.fst) r2.fst) (([] ++ [(1, (List.getD (p.getD t16.toNat ([], 0, 0, 0, ())).fst 0 (0, 0, 0, 0, 0, ())).snd.fst, 0, 0, r2.fst, ())], (p.getD t16.toNat ([], 0, 0, 0, ())).snd)) t14 (IntKind.i64.wrap (0 + 1))
                    else
                      l2 p r t16 out (([] ++ t14.getD t16.toNat []).set (Int.toNat (List.getD (p.getD t16.toNat ([], 0, 0, 0, ())).fst 0 (0, 0, 0, 0, 0, ())).snd.fst) r2.fst) (([] ++ [List.getD (p.getD t16.toNat ([], 0, 0, 0, ())).fst 0 (0, 0, 0, 0, 0, ())], (p.getD t16.toNat ([], 0, 0, 0, ())).snd)) t14 (IntKind.i64.wrap (0 + 1))
                  else
                    none
                else
                  none
              else
                none
            else
              bif decide ((p.getD t16.toNat ([], 0, 0, 0, ())).snd.fst ≥ 0) then
                bif inb (p.getD t16.toNat ([], 0, 0, 0, ())).snd.fst (List.length (t14.getD t16.toNat [])) then
                  bif decide (List.getD (t14.getD t16.toNat []) (Int.toNat (p.getD t16.toNat ([], 0, 0, 0, ())).snd.fst) 0 ≥ 0) then
                    Option.bind (ref_Goings_f nf (([], (p.getD t16.toNat ([], 0, 0, 0, ())).snd)) (t14.getD t16.toNat [])) fun r5 =>
                    bif inb 0 (List.length r5.fst) then
                      bif !false && leM (tI5fn1.sl.pair ((Ty.int IntKind.i64).pair tI2fn1)) 0 (Md.bor false false) (Md.bor false false) && (out.length + [(([] : TStfn1), (-1), List.getD r5.fst 0 0, 0, (p.getD t16.toNat ([], 0, 0, 0, ())).snd.snd.snd.snd)].length).ble lim then
                        g0 (out ++ [(([] : TStfn1), (-1), List.getD r5.fst 0 0, 0, (p.getD t16.toNat ([], 0, 0, 0, ())).snd.snd.snd.snd)]) t14 (IntKind.i64.wrap (t16 + 1))
                      else
                        none
                    else
                      none
                  else
                    bif !false && leM (tI5fn1.sl.pair ((Ty.int IntKind.i64).pair tI2fn1)) 0 (Md.bor false false) (Md.bor false false) && (out.length + [(([] : TStfn1), (p.getD t16.toNat ([], 0, 0, 0, ())).snd)].length).ble lim then
                      g0 (out ++ [(([] : TStfn1), (p.getD t16.toNat ([], 0, 0, 0, ())).snd)]) t14 (IntKind.i64.wrap (t16 + 1))
                    else
                      none
                else
                  none
              else
                bif !false && leM (tI5fn1.sl.pair ((Ty.int IntKind.i64).pair tI2fn1)) 0 (Md.bor false false) (Md.bor false false) && (out.length + [(([] : TStfn1), (p.getD t16.toNat ([], 0, 0, 0, ())).snd)].length).ble lim then
                  g0 (out ++ [(([] : TStfn1), (p.getD t16.toNat ([], 0, 0, 0, ())).snd)]) t14 (IntKind.i64.wrap (t16 + 1))
                else
                  none
          else
            none
        else
          none
      else
        bif !false && leM (tI5fn1.sl.pair ((Ty.int IntKind.i64).pair tI2fn1)) 0 (Md.bor false false) (Md.bor false false) && (out.length + [(([] : TStfn1), (-1), (-1), 0, ())].length).ble lim then
          g0 (out ++ [(([] : TStfn1), (-1), (-1), 0, ())]) t14 (IntKind.i64.wrap (t16 + 1))
        else
          none
    else
      none
  else
    some ((out, ()))
def ref_Folds_b2 (nf : Nat) (p : TBlfn1) (r : List (List Int) × Unit) (t16 : Int) (g0 : TBlfn1 → List (List Int) → Int → Option (TBlfn1 × Unit)) (g2 : TBlfn1 → List Int → TStfn1 × Int × Int × Int × Unit → List (List Int) → Int → Option (TBlfn1 × Unit)) (out2 : TBlfn1) (v : List Int) (b : TStfn1 × Int × Int × Int × Unit) (t142 : List (List Int)) (t35 : Int) : Option (TBlfn1 × Unit) :=
  bif decide (t35 < (↑(List.length (p.getD t16.toNat ([], 0, 0, 0, ())).fst) : Int)) then
    bif inb t35 (List.length (p.getD t16.toNat ([], 0, 0, 0, ())).fst) then
      Option.bind (ref_Makes_f nf (List.getD (p.getD t16.toNat ([], 0, 0, 0, ())).fst t35.toNat (0, 0, 0, 0, 0, ())) v) fun r3 =>
      bif bimp false !v.isEmpty && ((List.length ([] : List Unit)) + v.length).ble lim then
        bif inb (List.getD (p.getD t16.toNat ([], 0, 0, 0, ())).fst t35.toNat (0, 0, 0, 0, 0, ())).snd.fst ([] ++ v).length then
          bif decide (r3.fst ≥ 0) then
            bif ![(1, (List.getD (p.getD t16.toNat ([], 0, 0, 0, ())).fst t35.toNat (0, 0, 0, 0, 0, ())).snd.fst, 0, 0, r3.fst, ())].isEmpty && (List.length b.fst + [(1, (List.getD (p.getD t16.toNat ([], 0, 0, 0, ())).fst t35.toNat (0, 0, 0, 0, 0, ())).snd.fst, 0, 0, r3.fst, ())].length).ble lim then
              g2 out2 (([] ++ v).set (Int.toNat (List.getD (p.getD t16.toNat ([], 0, 0, 0, ())).fst t35.toNat (0, 0, 0, 0, 0, ())).snd.fst) r3.fst) ((b.fst ++ [(1, (List.getD (p.getD t16.toNat ([], 0, 0, 0, ())).fst t35.toNat (0, 0, 0, 0, 0, ())).snd.fst, 0, 0, r3.fst, ())], b.snd)) t142 (IntKind.i64.wrap (t35 + 1))
            else
              none
          else
            bif ![List.getD (p.getD t16.toNat ([], 0, 0, 0, ())).fst t35.toNat (0, 0, 0, 0, 0, ())].isEmpty && (List.length b.fst + [List.getD (p.getD t16.toNat ([], 0, 0, 0, ())).fst t35.toNat (0, 0, 0, 0, 0, ())].length).ble lim then
              g2 out2 (([] ++ v).set (Int.toNat (List.getD (p.getD t16.toNat ([], 0, 0, 0, ())).fst t35.toNat (0, 0, 0, 0, 0, ())).snd.fst) r3.fst) ((b.fst ++ [List.getD (p.getD t16.toNat ([], 0, 0, 0, ())).fst t35.toNat (0, 0, 0, 0, 0, ())], b.snd)) t142 (IntKind.i64.wrap (t35 + 1))
            else
              none
        else
          none
      else
        none
    else
      none
  else
    bif decide (b.snd.fst ≥ 0) then
      bif inb b.snd.fst v.length then
        bif decide (v.getD (Int.toNat b.snd.fst) 0 ≥ 0) then
          Option.bind (ref_Goings_f nf b v) fun r4 =>
          bif inb 0 (List.length r4.fst) then
            bif !false && leM (tI5fn1.sl.pair ((Ty.int IntKind.i64).pair tI2fn1)) 0 (Md.bor false false) (Md.bor false false) && (out2.length + [(b.fst, (-1), List.getD r4.fst 0 0, 0, b.snd.snd.snd.snd)].length).ble lim then
              g0 (out2 ++ [(b.fst, (-1), List.getD r4.fst 0 0, 0, b.snd.snd.snd.snd)]) t142 (IntKind.i64.wrap (t16 + 1))
            else
              none
          else
            none
        else
          bif !false && leM (tI5fn1.sl.pair ((Ty.int IntKind.i64).pair tI2fn1)) 0 (Md.bor false false) (Md.bor false false) && (out2.length + [b].length).ble lim then
            g0 (out2 ++ [b]) t142 (IntKind.i64.wrap (t16 + 1))
          else
            none
      else
        none
    else
      bif !false && leM (tI5fn1.sl.pair ((Ty.int IntKind.i64).pair tI2fn1)) 0 (Md.bor false false) (Md.bor false false) && (out2.length + [b].length).ble lim then
        g0 (out2 ++ [b]) t142 (IntKind.i64.wrap (t16 + 1))
      else
        none
def ref_Folds_p (nf : Nat) (l0 : TBlfn1 → List (List Int) × Unit → TBlfn1 → List (List Int) → Int → Option (TBlfn1 × Unit)) (p : TBlfn1) (have' : List Int) : Option (TBlfn1 × Unit) :=
  Option.bind (ref_Known_f nf p have') fun r =>
  l0 p r [] r.fst 0
def ref_Folds_l2 (nf : Nat) (p : TBlfn1) (r : List (List Int) × Unit) (t16 : Int) (g0 : TBlfn1 → List (List Int) → Int → Option (TBlfn1 × Unit)) : Nat → TBlfn1 → List Int → TStfn1 × Int × Int × Int × Unit → List (List Int) → Int → Option (TBlfn1 × Unit)
  | 0, _, _, _, _, _ => none
  | fu + 1, out2, v, b, t142, t35 => ref_Folds_b2 nf  p r t16 g0 (ref_Folds_l2 nf p r t16 g0 fu) out2 v b t142 t35
def ref_Folds_l0 (nf : Nat) (p : TBlfn1) (r : List (List Int) × Unit) : Nat → TBlfn1 → List (List Int) → Int → Option (TBlfn1 × Unit)
  | 0, _, _, _ => none
  | fu + 1, out, t14, t16 => ref_Folds_b0 nf (fun _ _ p2 v0 v1 v2 v3 v4 => ref_Folds_l2 nf p r p2 (fun out t14 t16 => ref_Folds_l0 nf p r  fu out t14 t16) nf v0 v1 v2 v3 v4) p r  (ref_Folds_l0 nf p r  fu) out t14 t16
def ref_Folds_f (nf : Nat) (p : TBlfn1) (have' : List Int) : Option (TBlfn1 × Unit) := ref_Folds_p nf (fun p0 p1 v0 v1 v2 => ref_Folds_l0 nf p0 p1 nf v0 v1 v2) p have'
noncomputable def ref_Folds_L0 (nf : Nat) : LC (TBlfn1 × Unit) := theL (findL ref_Folds_tab (ref_Folds_phi nf) (fun _ F => iter nf F) ref_Folds_keep 0 0 (codeOf Try.f40) (fin ref_Folds_tab [((tI5fn1.sl.pair ((Ty.int IntKind.i64).pair tI2fn1)).sl, Md.own false (Md.bor false false))] (resL ([]) Try.f40)) (fun _ _ => none) (fin ref_Folds_tab [((tI5fn1.sl.pair ((Ty.int IntKind.i64).pair tI2fn1)).sl, Md.own false (Md.bor false false))] (resL ([]) Try.f40)))
def ref_Folds_m0 (p : TBlfn1) (r : List (List Int) × Unit) (out : TBlfn1) (t14 : List (List Int)) (t16 : Int) : St := ⟨fresh, [(0, AV.v (tI5fn1.sl.pair ((Ty.int IntKind.i64).pair tI2fn1)).sl (Md.bor true false) p), (5, AV.ow 500005 (tI5fn1.sl.pair ((Ty.int IntKind.i64).pair tI2fn1)).sl (Md.own false (Md.bor false false)) out), (14, AV.ow 500014 (Ty.int IntKind.i64).sl.sl (Md.own false (Md.own true (Md.bor false true))) t14), (15, AV.v (Ty.int IntKind.i64) (Md.bor false true) (↑(List.length r.fst) : Int)), (16, AV.v (Ty.int IntKind.i64) (Md.bor false true) t16), (85, AV.dead)]⟩
noncomputable def ref_Folds_L2 (nf : Nat) (G0 : St → Option (TBlfn1 × Unit)) : LC (TBlfn1 × Unit) := theL (findL ref_Folds_tab (ref_Folds_phi nf) (fun _ F => iter nf F) ref_Folds_keep 2 0 (ref_Folds_L0 nf ).c (fun st => norm (ref_Folds_keep 0) st G0) (ref_Folds_L0 nf ).Kx (ref_Folds_L0 nf ).Kr)
def ref_Folds_m2 (p : TBlfn1) (r : List (List Int) × Unit) (t16 : Int) (out2 : TBlfn1) (v : List Int) (b : TStfn1 × Int × Int × Int × Unit) (t142 : List (List Int)) (t35 : Int) : St := ⟨fresh, [(0, AV.v (tI5fn1.sl.pair ((Ty.int IntKind.i64).pair tI2fn1)).sl (Md.bor true false) p), (5, AV.ow 500005 (tI5fn1.sl.pair ((Ty.int IntKind.i64).pair tI2fn1)).sl (Md.own false (Md.bor false false)) out2), (7, AV.ow 500007 (Ty.int IntKind.i64).sl (Md.own false (Md.bor false false)) v), (8, AV.box 8 500008 (tI5fn1.sl.pair ((Ty.int IntKind.i64).pair tI2fn1)) ((Md.own true (Md.bor false false)).pair (Md.bor true false)) b), (14, AV.ow 500014 (Ty.int IntKind.i64).sl.sl (Md.own false (Md.own true (Md.bor false true))) t142), (15, AV.v (Ty.int IntKind.i64) (Md.bor false true) (↑(List.length r.fst) : Int)), (16, AV.v (Ty.int IntKind.i64) (Md.bor false true) t16), (19, AV.pl 14 500014 [Stp.el t16.toNat]), (20, AV.al 14 500014 [Stp.el t16.toNat]), (29, AV.v (tI5fn1.sl.pair ((Ty.int IntKind.i64).pair tI2fn1)).sl (Md.bor true false) p), (31, AV.rop (tI5fn1.sl.pair ((Ty.int IntKind.i64).pair tI2fn1)) (Md.bor true false) (p.getD t16.toNat ([], 0, 0, 0, ()))), (32, AV.rop tI5fn1.sl (Md.bor true false) (p.getD t16.toNat ([], 0, 0, 0, ())).fst), (33, AV.v tI5fn1.sl (Md.bor true false) (p.getD t16.toNat ([], 0, 0, 0, ())).fst), (34, AV.v (Ty.int IntKind.i64) (Md.bor false true) (↑(List.length (p.getD t16.toNat ([], 0, 0, 0, ())).fst) : Int)), (35, AV.v (Ty.int IntKind.i64) (Md.bor false true) t35), (85, AV.dead)]⟩
theorem ref_Folds_h2 (nf : Nat) (G0 : St → Option (TBlfn1 × Unit)) (p : TBlfn1) (r : List (List Int) × Unit) (t16 : Int) (fu : Nat) (out2 : TBlfn1) (v : List Int) (b : TStfn1 × Int × Int × Int × Unit) (t142 : List (List Int)) (t35 : Int) : iter (fu + 1) (LC.F ref_Folds_tab (ref_Folds_phi nf) (fun _ F => iter nf F) ref_Folds_keep 2 (ref_Folds_L2 nf G0)) (ref_Folds_m2 p r t16 out2 v b t142 t35) = ref_Folds_b2 nf  p r t16 (fun out t14 t16 => G0 (ref_Folds_m0 p r out t14 t16)) (fun out2 v b t142 t35 => iter fu (LC.F ref_Folds_tab (ref_Folds_phi nf) (fun _ F => iter nf F) ref_Folds_keep 2 (ref_Folds_L2 nf G0)) (ref_Folds_m2 p r t16 out2 v b t142 t35)) out2 v b t142 t35 := by kernel_rfl
theorem ref_Folds_e2 (nf : Nat) (G0 : St → Option (TBlfn1 × Unit)) (p : TBlfn1) (r : List (List Int) × Unit) (t16 : Int) : ∀ (fu : Nat) (out2 : TBlfn1) (v : List Int) (b : TStfn1 × Int × Int × Int × Unit) (t142 : List (List Int)) (t35 : Int), iter fu (LC.F ref_Folds_tab (ref_Folds_phi nf) (fun _ F => iter nf F) ref_Folds_keep 2 (ref_Folds_L2 nf G0)) (ref_Folds_m2 p r t16 out2 v b t142 t35) = ref_Folds_l2 nf p r t16 (fun out t14 t16 => G0 (ref_Folds_m0 p r out t14 t16)) fu out2 v b t142 t35 := by
  intro fu
  induction fu with
  | zero => intros; rfl
  | succ fu ih =>
    intro out2 v b t142 t35
    rw [ref_Folds_h2 nf G0 p r t16 fu out2 v b t142 t35]
    simp only [ih]
    rfl
theorem ref_Folds_h0 (nf : Nat)  (p : TBlfn1) (r : List (List Int) × Unit) (fu : Nat) (out : TBlfn1) (t14 : List (List Int)) (t16 : Int) : iter (fu + 1) (LC.F ref_Folds_tab (ref_Folds_phi nf) (fun _ F => iter nf F) ref_Folds_keep 0 (ref_Folds_L0 nf )) (ref_Folds_m0 p r out t14 t16) = ref_Folds_b0 nf (fun _ _ p2 v0 v1 v2 v3 v4 => iter nf (LC.F ref_Folds_tab (ref_Folds_phi nf) (fun _ F => iter nf F) ref_Folds_keep 2 (ref_Folds_L2 nf (iter fu (LC.F ref_Folds_tab (ref_Folds_phi nf) (fun _ F => iter nf F) ref_Folds_keep 0 (ref_Folds_L0 nf ))))) (ref_Folds_m2 p r p2 v0 v1 v2 v3 v4)) p r  (fun out t14 t16 => iter fu (LC.F ref_Folds_tab (ref_Folds_phi nf) (fun _ F => iter nf F) ref_Folds_keep 0 (ref_Folds_L0 nf )) (ref_Folds_m0 p r out t14 t16)) out t14 t16 := by kernel_rfl
theorem ref_Folds_e0 (nf : Nat)  (p : TBlfn1) (r : List (List Int) × Unit) : ∀ (fu : Nat) (out : TBlfn1) (t14 : List (List Int)) (t16 : Int), iter fu (LC.F ref_Folds_tab (ref_Folds_phi nf) (fun _ F => iter nf F) ref_Folds_keep 0 (ref_Folds_L0 nf )) (ref_Folds_m0 p r out t14 t16) = ref_Folds_l0 nf p r  fu out t14 t16 := by
  intro fu
  induction fu with
  | zero => intros; rfl
  | succ fu ih =>
    intro out t14 t16
    rw [ref_Folds_h0 nf  p r fu out t14 t16]
    simp only [ih, ref_Folds_e2]
    rfl
theorem ref_Folds_eq (nf : Nat) (p : TBlfn1) (have' : List Int) : runF ref_Folds_tab (ref_Folds_phi nf) ref_Folds_keep nf [PT.val (tI5fn1.sl.pair ((Ty.int IntKind.i64).pair tI2fn1)).sl (Md.bor true false), PT.val (Ty.int IntKind.i64).sl (Md.bor true false)] [((tI5fn1.sl.pair ((Ty.int IntKind.i64).pair tI2fn1)).sl, Md.own false (Md.bor false false))] (resL ([]) Try.f40) (codeOf Try.f40) ⟨p, have', ()⟩ = ref_Folds_f nf p have' := by
  have h : runF ref_Folds_tab (ref_Folds_phi nf) ref_Folds_keep nf [PT.val (tI5fn1.sl.pair ((Ty.int IntKind.i64).pair tI2fn1)).sl (Md.bor true false), PT.val (Ty.int IntKind.i64).sl (Md.bor true false)] [((tI5fn1.sl.pair ((Ty.int IntKind.i64).pair tI2fn1)).sl, Md.own false (Md.bor false false))] (resL ([]) Try.f40) (codeOf Try.f40) ⟨p, have', ()⟩ = ref_Folds_p nf (fun p0 p1 v0 v1 v2 => iter nf (LC.F ref_Folds_tab (ref_Folds_phi nf) (fun _ F => iter nf F) ref_Folds_keep 0 (ref_Folds_L0 nf)) (ref_Folds_m0 p0 p1 v0 v1 v2)) p have' := by kernel_rfl
  rw [h]
  simp only [ref_Folds_e0]
  rfl
def ref_Folds_F (nf : Nat) (x : denPs [.val (.sl (.pair (.sl tI5fn1) tI3fn1)) (.bor true false), .val (.sl (.int .i64)) (.bor true false)]) : Option (denL [(.sl (.pair (.sl tI5fn1) tI3fn1), .own false (.bor false false))]) := ref_Folds_f nf x.1 x.2.1
def ref_Folds_C (nf : Nat) : Contract := ⟨[.val (.sl (.pair (.sl tI5fn1) tI3fn1)) (.bor true false), .val (.sl (.int .i64)) (.bor true false)], [(.sl (.pair (.sl tI5fn1) tI3fn1), .own false (.bor false false))], ref_Folds_F nf, []⟩
theorem ref_Folds_ok : FnOK Try.prog 40 := ⟨Try.f40, codeOf Try.f40, Try.func40, by kernel_rfl, by kernel_rfl⟩
theorem ref_Folds_holds (nf : Nat) : Contract.Holds Try.prog 40 (ref_Folds_C nf) :=
  fn_holds (Φ := ref_Folds_phi nf) (keep := ref_Folds_keep) (n := nf) ⟨ref_Folds_tabs.1, ref_Folds_tabs.2, (ctx_cons ref_Known_ok (ref_Known_holds nf) (ctx_cons ref_Goings_ok (ref_Goings_holds nf) (ctx_cons ref_Makes_ok (ref_Makes_holds nf) ctx_nil))), mixed, bk_ok bkls rfl⟩ (fn := Try.f40) ⟨Try.func40, by kernel_rfl, by kernel_rfl, by kernel_rfl⟩ (fun x => ref_Folds_eq nf x.1 x.2.1)

/-! codemason codemasonlaw.KnownFolds -/
def law_KnownFolds_phi (nf : Nat) : Nat → Option Contract := lookC [(34, ref_Progs_C nf), (37, law_startCode_C nf), (39, known_Fold_C nf), (40, ref_Folds_C nf)]
def law_KnownFolds_keep : Nat → List Nat := lookK []
def law_KnownFolds_p (nf : Nat)  (vars : Int) (p : TBlfn1) (have' : List Int) : Option (Bool × Unit) :=
  Option.bind (known_Fold_f nf vars p have') fun r =>
  Option.bind (law_startCode_f nf vars p have') fun r2 =>
  bif r2.fst != 0 then
    bif r.snd.fst == r2.fst then
      some (((↑(List.length r.fst) : Int) == 0, ()))
    else
      some ((false, ()))
  else
    bif r.snd.fst == 0 then
      Option.bind (ref_Folds_f nf p have') fun r3 =>
      Option.bind (ref_Progs_f nf r.fst r3.fst) fun r4 =>
      some ((r4.fst, ()))
    else
      some ((false, ()))
def law_KnownFolds_f (nf : Nat) (vars : Int) (p : TBlfn1) (have' : List Int) : Option (Bool × Unit) := law_KnownFolds_p nf  vars p have'
theorem law_KnownFolds_eq (nf : Nat) (vars : Int) (p : TBlfn1) (have' : List Int) : runF tab (law_KnownFolds_phi nf) law_KnownFolds_keep nf [PT.val (Ty.int IntKind.i64) (Md.bor false false), PT.val (tI5fn1.sl.pair ((Ty.int IntKind.i64).pair tI2fn1)).sl (Md.bor false false), PT.val (Ty.int IntKind.i64).sl (Md.bor false false)] [(Ty.bool, Md.bor false true)] (resL ([]) Try.f9) (codeOf Try.f9) ⟨vars, p, have', ()⟩ = law_KnownFolds_f nf vars p have' := by
  have h : runF tab (law_KnownFolds_phi nf) law_KnownFolds_keep nf [PT.val (Ty.int IntKind.i64) (Md.bor false false), PT.val (tI5fn1.sl.pair ((Ty.int IntKind.i64).pair tI2fn1)).sl (Md.bor false false), PT.val (Ty.int IntKind.i64).sl (Md.bor false false)] [(Ty.bool, Md.bor false true)] (resL ([]) Try.f9) (codeOf Try.f9) ⟨vars, p, have', ()⟩ = law_KnownFolds_p nf  vars p have' := by kernel_rfl
  exact h
def law_KnownFolds_F (nf : Nat) (x : denPs [.val (.int .i64) (.bor false false), .val (.sl (.pair (.sl tI5fn1) tI3fn1)) (.bor false false), .val (.sl (.int .i64)) (.bor false false)]) : Option (denL [(.bool, .bor false true)]) := law_KnownFolds_f nf x.1 x.2.1 x.2.2.1
def law_KnownFolds_C (nf : Nat) : Contract := ⟨[.val (.int .i64) (.bor false false), .val (.sl (.pair (.sl tI5fn1) tI3fn1)) (.bor false false), .val (.sl (.int .i64)) (.bor false false)], [(.bool, .bor false true)], law_KnownFolds_F nf, []⟩
theorem law_KnownFolds_ok : FnOK Try.prog 9 := ⟨Try.f9, codeOf Try.f9, Try.func9, by kernel_rfl, by kernel_rfl⟩
theorem law_KnownFolds_holds (nf : Nat) : Contract.Holds Try.prog 9 (law_KnownFolds_C nf) :=
  fn_holds (Φ := law_KnownFolds_phi nf) (keep := law_KnownFolds_keep) (n := nf) ⟨tabs.1, tabs.2, (ctx_cons ref_Progs_ok (ref_Progs_holds nf) (ctx_cons law_startCode_ok (law_startCode_holds nf) (ctx_cons known_Fold_ok (known_Fold_holds nf) (ctx_cons ref_Folds_ok (ref_Folds_holds nf) ctx_nil)))), mixed, bk_ok bkls rfl⟩ (fn := Try.f9) ⟨Try.func9, by kernel_rfl, by kernel_rfl, by kernel_rfl⟩ (fun x => law_KnownFolds_eq nf x.1 x.2.1 x.2.2.1)

/-! codemason term.Have 1 -/
def term_Have_1_phi (nf : Nat) : Nat → Option Contract := lookC []
def term_Have_1_keep : Nat → List Nat := lookK []
def term_Have_1_p (nf : Nat)  (x : Int) : Option (Bool × Unit) :=
  bif decide (x < 0) then
    some ((true, ()))
  else
    some ((decide (x > 255), ()))
def term_Have_1_f (nf : Nat) (x : Int) : Option (Bool × Unit) := term_Have_1_p nf  x
theorem term_Have_1_eq (nf : Nat) (x : Int) : runF tab (term_Have_1_phi nf) term_Have_1_keep nf [PT.val (Ty.int IntKind.i64) (Md.bor true false)] [(Ty.bool, Md.bor false true)] (resL ([]) Try.f119) (codeOf Try.f119) ⟨x, ()⟩ = term_Have_1_f nf x := by
  have h : runF tab (term_Have_1_phi nf) term_Have_1_keep nf [PT.val (Ty.int IntKind.i64) (Md.bor true false)] [(Ty.bool, Md.bor false true)] (resL ([]) Try.f119) (codeOf Try.f119) ⟨x, ()⟩ = term_Have_1_p nf  x := by kernel_rfl
  exact h
def term_Have_1_F (nf : Nat) (x : denPs [.val (.int .i64) (.bor true false)]) : Option (denL [(.bool, .bor false true)]) := term_Have_1_f nf x.1
def term_Have_1_C (nf : Nat) : Contract := ⟨[.val (.int .i64) (.bor true false)], [(.bool, .bor false true)], term_Have_1_F nf, []⟩
theorem term_Have_1_ok : FnOK Try.prog 119 := ⟨Try.f119, codeOf Try.f119, Try.func119, by kernel_rfl, by kernel_rfl⟩
theorem term_Have_1_holds (nf : Nat) : Contract.Holds Try.prog 119 (term_Have_1_C nf) :=
  fn_holds (Φ := term_Have_1_phi nf) (keep := term_Have_1_keep) (n := nf) ⟨tabs.1, tabs.2, ctx_nil, mixed, bk_ok bkls rfl⟩ (fn := Try.f119) ⟨Try.func119, by kernel_rfl, by kernel_rfl, by kernel_rfl⟩ (fun x => term_Have_1_eq nf x.1)

/-! slices.IndexFunc   int int  codemason term.Have 1 -/
def slices_IndexFunc__term_Have_1_phi (nf : Nat) : Nat → Option Contract := lookC [(119, term_Have_1_C nf)]
def slices_IndexFunc__term_Have_1_keep : Nat → List Nat := lookK [(0, [0, 1, 7, 8])]
def slices_IndexFunc__term_Have_1_b0 (nf : Nat) (s : List Int) (g0 : Int → Option (Int × Unit)) (t8 : Int) : Option (Int × Unit) :=
  bif decide (t8 < (↑s.length : Int)) then
    bif inb t8 s.length then
      Option.bind (term_Have_1_f nf (s.getD t8.toNat 0)) fun r =>
      bif r.fst then
        some ((t8, ()))
      else
        g0 (IntKind.i64.wrap (t8 + 1))
    else
      none
  else
    some ((-1, ()))
def slices_IndexFunc__term_Have_1_p (nf : Nat) (l0 : List Int → Int → Option (Int × Unit)) (s : List Int) (f : Unit) : Option (Int × Unit) :=
  l0 s 0
def slices_IndexFunc__term_Have_1_l0 (nf : Nat) (s : List Int) : Nat → Int → Option (Int × Unit)
  | 0, _ => none
  | fu + 1, t8 => slices_IndexFunc__term_Have_1_b0 nf  s  (slices_IndexFunc__term_Have_1_l0 nf s  fu) t8
def slices_IndexFunc__term_Have_1_f (nf : Nat) (s : List Int) (f : Unit) : Option (Int × Unit) := slices_IndexFunc__term_Have_1_p nf (fun p0 v0 => slices_IndexFunc__term_Have_1_l0 nf p0 nf v0) s f
noncomputable def slices_IndexFunc__term_Have_1_L0 (nf : Nat) : LC (Int × Unit) := theL (findL tab (slices_IndexFunc__term_Have_1_phi nf) (fun _ F => iter nf F) slices_IndexFunc__term_Have_1_keep 0 0 (codeOf Try.f137) (fin tab [(Ty.int IntKind.i64, Md.bor false true)] (resL ([]) Try.f137)) (fun _ _ => none) (fin tab [(Ty.int IntKind.i64, Md.bor false true)] (resL ([]) Try.f137)))
def slices_IndexFunc__term_Have_1_m0 (s : List Int) (t8 : Int) : St := ⟨fresh, [(0, AV.v (Ty.int IntKind.i64).sl (Md.bor true false) s), (1, AV.clo 119 []), (7, AV.v (Ty.int IntKind.i64) (Md.bor false true) (↑s.length : Int)), (8, AV.v (Ty.int IntKind.i64) (Md.bor false true) t8)]⟩
theorem slices_IndexFunc__term_Have_1_h0 (nf : Nat)  (s : List Int) (fu : Nat) (t8 : Int) : iter (fu + 1) (LC.F tab (slices_IndexFunc__term_Have_1_phi nf) (fun _ F => iter nf F) slices_IndexFunc__term_Have_1_keep 0 (slices_IndexFunc__term_Have_1_L0 nf )) (slices_IndexFunc__term_Have_1_m0 s t8) = slices_IndexFunc__term_Have_1_b0 nf  s  (fun t8 => iter fu (LC.F tab (slices_IndexFunc__term_Have_1_phi nf) (fun _ F => iter nf F) slices_IndexFunc__term_Have_1_keep 0 (slices_IndexFunc__term_Have_1_L0 nf )) (slices_IndexFunc__term_Have_1_m0 s t8)) t8 := by kernel_rfl
theorem slices_IndexFunc__term_Have_1_e0 (nf : Nat)  (s : List Int) : ∀ (fu : Nat) (t8 : Int), iter fu (LC.F tab (slices_IndexFunc__term_Have_1_phi nf) (fun _ F => iter nf F) slices_IndexFunc__term_Have_1_keep 0 (slices_IndexFunc__term_Have_1_L0 nf )) (slices_IndexFunc__term_Have_1_m0 s t8) = slices_IndexFunc__term_Have_1_l0 nf s  fu t8 := by
  intro fu
  induction fu with
  | zero => intros; rfl
  | succ fu ih =>
    intro t8
    rw [slices_IndexFunc__term_Have_1_h0 nf  s fu t8]
    simp only [ih]
    rfl
theorem slices_IndexFunc__term_Have_1_eq (nf : Nat) (s : List Int) (f : Unit) : runF tab (slices_IndexFunc__term_Have_1_phi nf) slices_IndexFunc__term_Have_1_keep nf [PT.val (Ty.int IntKind.i64).sl (Md.bor true false), PT.clo 119 []] [(Ty.int IntKind.i64, Md.bor false true)] (resL ([]) Try.f137) (codeOf Try.f137) ⟨s, f, ()⟩ = slices_IndexFunc__term_Have_1_f nf s f := by
  have h : runF tab (slices_IndexFunc__term_Have_1_phi nf) slices_IndexFunc__term_Have_1_keep nf [PT.val (Ty.int IntKind.i64).sl (Md.bor true false), PT.clo 119 []] [(Ty.int IntKind.i64, Md.bor false true)] (resL ([]) Try.f137) (codeOf Try.f137) ⟨s, f, ()⟩ = slices_IndexFunc__term_Have_1_p nf (fun p0 v0 => iter nf (LC.F tab (slices_IndexFunc__term_Have_1_phi nf) (fun _ F => iter nf F) slices_IndexFunc__term_Have_1_keep 0 (slices_IndexFunc__term_Have_1_L0 nf)) (slices_IndexFunc__term_Have_1_m0 p0 v0)) s f := by kernel_rfl
  rw [h]
  simp only [slices_IndexFunc__term_Have_1_e0]
  rfl
def slices_IndexFunc__term_Have_1_F (nf : Nat) (x : denPs [.val (.sl (.int .i64)) (.bor true false), .clo 119 []]) : Option (denL [(.int .i64, .bor false true)]) := slices_IndexFunc__term_Have_1_f nf x.1 x.2.1
def slices_IndexFunc__term_Have_1_C (nf : Nat) : Contract := ⟨[.val (.sl (.int .i64)) (.bor true false), .clo 119 []], [(.int .i64, .bor false true)], slices_IndexFunc__term_Have_1_F nf, []⟩
theorem slices_IndexFunc__term_Have_1_ok : FnOK Try.prog 137 := ⟨Try.f137, codeOf Try.f137, Try.func137, by kernel_rfl, by kernel_rfl⟩
theorem slices_IndexFunc__term_Have_1_holds (nf : Nat) : Contract.Holds Try.prog 137 (slices_IndexFunc__term_Have_1_C nf) :=
  fn_holds (Φ := slices_IndexFunc__term_Have_1_phi nf) (keep := slices_IndexFunc__term_Have_1_keep) (n := nf) ⟨tabs.1, tabs.2, (ctx_cons term_Have_1_ok (term_Have_1_holds nf) ctx_nil), mixed, bk_ok bkls rfl⟩ (fn := Try.f137) ⟨Try.func137, by kernel_rfl, by kernel_rfl, by kernel_rfl⟩ (fun x => slices_IndexFunc__term_Have_1_eq nf x.1 x.2.1)

/-! slices.ContainsFunc   int int  codemason term.Have 1 -/
def slices_ContainsFunc__term_Have_1_phi (nf : Nat) : Nat → Option Contract := lookC [(137, slices_IndexFunc__term_Have_1_C nf)]
def slices_ContainsFunc__term_Have_1_keep : Nat → List Nat := lookK []
def slices_ContainsFunc__term_Have_1_p (nf : Nat)  (s : List Int) (f : Unit) : Option (Bool × Unit) :=
  Option.bind (slices_IndexFunc__term_Have_1_f nf s (())) fun r =>
  some ((decide (r.fst ≥ 0), ()))
def slices_ContainsFunc__term_Have_1_f (nf : Nat) (s : List Int) (f : Unit) : Option (Bool × Unit) := slices_ContainsFunc__term_Have_1_p nf  s f
theorem slices_ContainsFunc__term_Have_1_eq (nf : Nat) (s : List Int) (f : Unit) : runF tab (slices_ContainsFunc__term_Have_1_phi nf) slices_ContainsFunc__term_Have_1_keep nf [PT.val (Ty.int IntKind.i64).sl (Md.bor true false), PT.clo 119 []] [(Ty.bool, Md.bor false true)] (resL ([]) Try.f118) (codeOf Try.f118) ⟨s, f, ()⟩ = slices_ContainsFunc__term_Have_1_f nf s f := by
  have h : runF tab (slices_ContainsFunc__term_Have_1_phi nf) slices_ContainsFunc__term_Have_1_keep nf [PT.val (Ty.int IntKind.i64).sl (Md.bor true false), PT.clo 119 []] [(Ty.bool, Md.bor false true)] (resL ([]) Try.f118) (codeOf Try.f118) ⟨s, f, ()⟩ = slices_ContainsFunc__term_Have_1_p nf  s f := by kernel_rfl
  exact h
def slices_ContainsFunc__term_Have_1_F (nf : Nat) (x : denPs [.val (.sl (.int .i64)) (.bor true false), .clo 119 []]) : Option (denL [(.bool, .bor false true)]) := slices_ContainsFunc__term_Have_1_f nf x.1 x.2.1
def slices_ContainsFunc__term_Have_1_C (nf : Nat) : Contract := ⟨[.val (.sl (.int .i64)) (.bor true false), .clo 119 []], [(.bool, .bor false true)], slices_ContainsFunc__term_Have_1_F nf, []⟩
theorem slices_ContainsFunc__term_Have_1_ok : FnOK Try.prog 118 := ⟨Try.f118, codeOf Try.f118, Try.func118, by kernel_rfl, by kernel_rfl⟩
theorem slices_ContainsFunc__term_Have_1_holds (nf : Nat) : Contract.Holds Try.prog 118 (slices_ContainsFunc__term_Have_1_C nf) :=
  fn_holds (Φ := slices_ContainsFunc__term_Have_1_phi nf) (keep := slices_ContainsFunc__term_Have_1_keep) (n := nf) ⟨tabs.1, tabs.2, (ctx_cons slices_IndexFunc__term_Have_1_ok (slices_IndexFunc__term_Have_1_holds nf) ctx_nil), mixed, bk_ok bkls rfl⟩ (fn := Try.f118) ⟨Try.func118, by kernel_rfl, by kernel_rfl, by kernel_rfl⟩ (fun x => slices_ContainsFunc__term_Have_1_eq nf x.1 x.2.1)

/-! codemason term.Have -/
def term_Have_phi (nf : Nat) : Nat → Option Contract := lookC [(118, slices_ContainsFunc__term_Have_1_C nf)]
def term_Have_keep : Nat → List Nat := lookK []
def term_Have_p (nf : Nat)  (vars : Int) (have' : List Int) : Option (Int × Unit) :=
  bif (↑have'.length : Int) != vars then
    some ((3, ()))
  else
    Option.bind (slices_ContainsFunc__term_Have_1_f nf have' (())) fun r =>
    bif r.fst then
      some ((4, ()))
    else
      some ((0, ()))
def term_Have_f (nf : Nat) (vars : Int) (have' : List Int) : Option (Int × Unit) := term_Have_p nf  vars have'
theorem term_Have_eq (nf : Nat) (vars : Int) (have' : List Int) : runF tab (term_Have_phi nf) term_Have_keep nf [PT.val (Ty.int IntKind.i64) (Md.bor true false), PT.val (Ty.int IntKind.i64).sl (Md.bor true false)] [(Ty.int IntKind.i64, Md.bor false true)] (resL ([]) Try.f68) (codeOf Try.f68) ⟨vars, have', ()⟩ = term_Have_f nf vars have' := by
  have h : runF tab (term_Have_phi nf) term_Have_keep nf [PT.val (Ty.int IntKind.i64) (Md.bor true false), PT.val (Ty.int IntKind.i64).sl (Md.bor true false)] [(Ty.int IntKind.i64, Md.bor false true)] (resL ([]) Try.f68) (codeOf Try.f68) ⟨vars, have', ()⟩ = term_Have_p nf  vars have' := by kernel_rfl
  exact h
def term_Have_F (nf : Nat) (x : denPs [.val (.int .i64) (.bor true false), .val (.sl (.int .i64)) (.bor true false)]) : Option (denL [(.int .i64, .bor false true)]) := term_Have_f nf x.1 x.2.1
def term_Have_C (nf : Nat) : Contract := ⟨[.val (.int .i64) (.bor true false), .val (.sl (.int .i64)) (.bor true false)], [(.int .i64, .bor false true)], term_Have_F nf, []⟩
theorem term_Have_ok : FnOK Try.prog 68 := ⟨Try.f68, codeOf Try.f68, Try.func68, by kernel_rfl, by kernel_rfl⟩
theorem term_Have_holds (nf : Nat) : Contract.Holds Try.prog 68 (term_Have_C nf) :=
  fn_holds (Φ := term_Have_phi nf) (keep := term_Have_keep) (n := nf) ⟨tabs.1, tabs.2, (ctx_cons slices_ContainsFunc__term_Have_1_ok (slices_ContainsFunc__term_Have_1_holds nf) ctx_nil), mixed, bk_ok bkls rfl⟩ (fn := Try.f68) ⟨Try.func68, by kernel_rfl, by kernel_rfl, by kernel_rfl⟩ (fun x => term_Have_eq nf x.1 x.2.1)

/-! codemason codemasonref.HaveCheck -/
def ref_HaveCheck_phi (nf : Nat) : Nat → Option Contract := lookC [(96, ref_Value_C nf)]
def ref_HaveCheck_keep : Nat → List Nat := lookK [(0, [1, 11, 12, 13])]
def ref_HaveCheck_b0 (nf : Nat) (have' : List Int) (g0 : Int → Option (Int × Unit)) (t13 : Int) : Option (Int × Unit) :=
  bif decide (t13 < (↑have'.length : Int)) then
    bif inb t13 have'.length then
      Option.bind (ref_Value_f nf (have'.getD t13.toNat 0)) fun r =>
      bif !r.fst then
        some ((4, ()))
      else
        g0 (IntKind.i64.wrap (t13 + 1))
    else
      none
  else
    some ((0, ()))
def ref_HaveCheck_p (nf : Nat) (l0 : List Int → Int → Option (Int × Unit)) (vars : Int) (have' : List Int) : Option (Int × Unit) :=
  bif (↑have'.length : Int) != vars then
    some ((3, ()))
  else
    l0 have' 0
def ref_HaveCheck_l0 (nf : Nat) (have' : List Int) : Nat → Int → Option (Int × Unit)
  | 0, _ => none
  | fu + 1, t13 => ref_HaveCheck_b0 nf  have'  (ref_HaveCheck_l0 nf have'  fu) t13
def ref_HaveCheck_f (nf : Nat) (vars : Int) (have' : List Int) : Option (Int × Unit) := ref_HaveCheck_p nf (fun p0 v0 => ref_HaveCheck_l0 nf p0 nf v0) vars have'
noncomputable def ref_HaveCheck_L0 (nf : Nat) : LC (Int × Unit) := theL (findL tab (ref_HaveCheck_phi nf) (fun _ F => iter nf F) ref_HaveCheck_keep 0 0 (codeOf Try.f50) (fin tab [(Ty.int IntKind.i64, Md.bor false true)] (resL ([]) Try.f50)) (fun _ _ => none) (fin tab [(Ty.int IntKind.i64, Md.bor false true)] (resL ([]) Try.f50)))
def ref_HaveCheck_m0 (have' : List Int) (t13 : Int) : St := ⟨fresh, [(1, AV.v (Ty.int IntKind.i64).sl (Md.bor true false) have'), (11, AV.v (Ty.int IntKind.i64).sl (Md.bor true false) have'), (12, AV.v (Ty.int IntKind.i64) (Md.bor false true) (↑have'.length : Int)), (13, AV.v (Ty.int IntKind.i64) (Md.bor false true) t13)]⟩
theorem ref_HaveCheck_h0 (nf : Nat)  (have' : List Int) (fu : Nat) (t13 : Int) : iter (fu + 1) (LC.F tab (ref_HaveCheck_phi nf) (fun _ F => iter nf F) ref_HaveCheck_keep 0 (ref_HaveCheck_L0 nf )) (ref_HaveCheck_m0 have' t13) = ref_HaveCheck_b0 nf  have'  (fun t13 => iter fu (LC.F tab (ref_HaveCheck_phi nf) (fun _ F => iter nf F) ref_HaveCheck_keep 0 (ref_HaveCheck_L0 nf )) (ref_HaveCheck_m0 have' t13)) t13 := by kernel_rfl
theorem ref_HaveCheck_e0 (nf : Nat)  (have' : List Int) : ∀ (fu : Nat) (t13 : Int), iter fu (LC.F tab (ref_HaveCheck_phi nf) (fun _ F => iter nf F) ref_HaveCheck_keep 0 (ref_HaveCheck_L0 nf )) (ref_HaveCheck_m0 have' t13) = ref_HaveCheck_l0 nf have'  fu t13 := by
  intro fu
  induction fu with
  | zero => intros; rfl
  | succ fu ih =>
    intro t13
    rw [ref_HaveCheck_h0 nf  have' fu t13]
    simp only [ih]
    rfl
theorem ref_HaveCheck_eq (nf : Nat) (vars : Int) (have' : List Int) : runF tab (ref_HaveCheck_phi nf) ref_HaveCheck_keep nf [PT.val (Ty.int IntKind.i64) (Md.bor true false), PT.val (Ty.int IntKind.i64).sl (Md.bor true false)] [(Ty.int IntKind.i64, Md.bor false true)] (resL ([]) Try.f50) (codeOf Try.f50) ⟨vars, have', ()⟩ = ref_HaveCheck_f nf vars have' := by
  have h : runF tab (ref_HaveCheck_phi nf) ref_HaveCheck_keep nf [PT.val (Ty.int IntKind.i64) (Md.bor true false), PT.val (Ty.int IntKind.i64).sl (Md.bor true false)] [(Ty.int IntKind.i64, Md.bor false true)] (resL ([]) Try.f50) (codeOf Try.f50) ⟨vars, have', ()⟩ = ref_HaveCheck_p nf (fun p0 v0 => iter nf (LC.F tab (ref_HaveCheck_phi nf) (fun _ F => iter nf F) ref_HaveCheck_keep 0 (ref_HaveCheck_L0 nf)) (ref_HaveCheck_m0 p0 v0)) vars have' := by kernel_rfl
  rw [h]
  simp only [ref_HaveCheck_e0]
  rfl
def ref_HaveCheck_F (nf : Nat) (x : denPs [.val (.int .i64) (.bor true false), .val (.sl (.int .i64)) (.bor true false)]) : Option (denL [(.int .i64, .bor false true)]) := ref_HaveCheck_f nf x.1 x.2.1
def ref_HaveCheck_C (nf : Nat) : Contract := ⟨[.val (.int .i64) (.bor true false), .val (.sl (.int .i64)) (.bor true false)], [(.int .i64, .bor false true)], ref_HaveCheck_F nf, []⟩
theorem ref_HaveCheck_ok : FnOK Try.prog 50 := ⟨Try.f50, codeOf Try.f50, Try.func50, by kernel_rfl, by kernel_rfl⟩
theorem ref_HaveCheck_holds (nf : Nat) : Contract.Holds Try.prog 50 (ref_HaveCheck_C nf) :=
  fn_holds (Φ := ref_HaveCheck_phi nf) (keep := ref_HaveCheck_keep) (n := nf) ⟨tabs.1, tabs.2, (ctx_cons ref_Value_ok (ref_Value_holds nf) ctx_nil), mixed, bk_ok bkls rfl⟩ (fn := Try.f50) ⟨Try.func50, by kernel_rfl, by kernel_rfl, by kernel_rfl⟩ (fun x => ref_HaveCheck_eq nf x.1 x.2.1)
end
end Go.Proofs.Ytokjogplnoeicaa.S
