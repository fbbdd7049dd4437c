/- The functions of the code, as plain functions, and the theorems that say so: made by a program of this proof's own. -/
import Derived.Test.YtgbldmehdipfaaaAbCheck
import Derived.Test.YtgbldmehdipfaaaChecked
namespace Go.Proofs.Ytgbldmehdipfaaa.S
open Go Go.Ab
noncomputable section
def tab : Tab := ⟨lookT [(2, .int .i64), (3, .int .i64), (4, .bool), (5, .int .u8), (6, .int .u8), (7, .pair (.int .i64) (.pair (.int .i64) (.pair (.bool) (.pair (.int .u8) (.unit))))), (8, .pair (.int .i64) (.pair (.int .i64) (.pair (.bool) (.pair (.int .u8) (.unit))))), (12, .int .u64), (21, .int .i32), (24, .sl (.pair (.int .i64) (.pair (.int .i64) (.unit)))), (25, .int .u32), (26, .int .i64), (30, .int .u64), (38, .sl (.int .i64)), (44, .sl (.sl (.int .i64))), (49, .pair (.int .i64) (.pair (.int .i64) (.unit))), (51, .sl (.pair (.int .i64) (.pair (.bool) (.pair (.int .i64) (.unit))))), (59, .sl (.pair (.int .i64) (.pair (.int .i64) (.pair (.int .i64) (.unit))))), (64, .sl (.int .u32)), (71, .pair (.int .i64) (.pair (.bool) (.pair (.int .i64) (.unit)))), (72, .pair (.int .i64) (.pair (.bool) (.pair (.int .i64) (.unit)))), (76, .pair (.int .i64) (.pair (.int .i64) (.pair (.int .i64) (.unit)))), (77, .pair (.int .i64) (.pair (.int .i64) (.pair (.int .i64) (.unit)))), (85, .int .u64), (95, .int .u8), (96, .int .u8), (99, .int .i32), (100, .int .i32)], lookM [(2, .bor false true), (3, .bor false true), (4, .bor false true), (5, .bor false true), (6, .bor false true), (7, .bor false true), (8, .bor false true), (12, .bor false true), (21, .bor false true), (24, .own false (.bor false false)), (25, .bor false true), (26, .bor false true), (30, .bor false true), (38, .own false (.bor false false)), (44, .own false (.bor false false)), (49, .bor false true), (51, .own false (.bor false false)), (59, .own false (.bor false false)), (64, .own false (.bor false false)), (71, .bor false true), (72, .bor false true), (76, .bor false true), (77, .bor false true), (85, .bor false true), (95, .bor false true), (96, .bor false true), (99, .bor false true), (100, .bor false true)], hasT [49, 91], hasT [9, 10, 11]⟩
theorem tabs : TabOK Try.prog tab ∧ EqOK Try.prog tab := tab_ok (by kernel_rfl) (by kernel_rfl)
theorem mixed : Try.prog.follows .mixedOrders = true := by kernel_rfl

/-! codemason plan.ready -/
def plan_ready_phi (nf : Nat) : Nat → Option Contract := lookC []
def plan_ready_keep : Nat → List Nat := lookK [(0, [0, 1, 5, 8, 9, 10])]
def plan_ready_b0 (nf : Nat) (l' : List Int) (done : Int) (g0 : Int → Int → Option (Int × Unit)) (s : Int) (t10 : Int) : Option (Int × Unit) :=
  bif decide (t10 < (↑l'.length : Int)) then
    bif inb t10 l'.length then
      bif decide (0 ≤ t10) then
        bif IntKind.u32.wrap (↑(BitVec.ofInt IntKind.u32.bits (shrI IntKind.u32 done t10) &&& BitVec.ofInt IntKind.u32.bits 1).toNat : Int) == 0 then
          bif IntKind.u32.wrap (↑(BitVec.ofInt IntKind.u32.bits (l'.getD t10.toNat 0) &&& ~~~BitVec.ofInt IntKind.u32.bits done).toNat : Int) == 0 then
            bif decide (0 ≤ t10) then
              g0 (IntKind.u32.wrap (↑(BitVec.ofInt IntKind.u32.bits s ||| BitVec.ofInt IntKind.u32.bits (shlI IntKind.u32 1 t10)).toNat : Int)) (IntKind.i64.wrap (t10 + 1))
            else
              none
          else
            g0 s (IntKind.i64.wrap (t10 + 1))
        else
          g0 s (IntKind.i64.wrap (t10 + 1))
      else
        none
    else
      none
  else
    some ((s, ()))
def plan_ready_p (nf : Nat) (l0 : List Int → Int → Int → Int → Option (Int × Unit)) (l' : List Int) (done : Int) : Option (Int × Unit) :=
  l0 l' done 0 0
def plan_ready_l0 (nf : Nat) (l' : List Int) (done : Int) : Nat → Int → Int → Option (Int × Unit)
  | 0, _, _ => none
  | fu + 1, s, t10 => plan_ready_b0 nf  l' done  (plan_ready_l0 nf l' done  fu) s t10
def plan_ready_f (nf : Nat) (l' : List Int) (done : Int) : Option (Int × Unit) := plan_ready_p nf (fun p0 p1 v0 v1 => plan_ready_l0 nf p0 p1 nf v0 v1) l' done
noncomputable def plan_ready_L0 (nf : Nat) : LC (Int × Unit) := theL (findL tab (plan_ready_phi nf) (fun _ F => iter nf F) plan_ready_keep 0 0 (codeOf Try.f43) (fin tab [(Ty.int IntKind.u32, Md.bor false true)] (resL (none) Try.f43)) (fun _ _ => none) (fin tab [(Ty.int IntKind.u32, Md.bor false true)] (resL (none) Try.f43)))
def plan_ready_m0 (l' : List Int) (done : Int) (s : Int) (t10 : Int) : St := ⟨fresh, [(0, AV.v (Ty.int IntKind.u32).sl (Md.bor true false) l'), (1, AV.v (Ty.int IntKind.u32) (Md.bor false true) done), (5, AV.v (Ty.int IntKind.u32) (Md.bor false true) s), (8, AV.v (Ty.int IntKind.u32).sl (Md.bor true false) l'), (9, AV.v (Ty.int IntKind.i64) (Md.bor false true) (↑l'.length : Int)), (10, AV.v (Ty.int IntKind.i64) (Md.bor false true) t10)]⟩
theorem plan_ready_h0 (nf : Nat)  (l' : List Int) (done : Int) (fu : Nat) (s : Int) (t10 : Int) : iter (fu + 1) (LC.F tab (plan_ready_phi nf) (fun _ F => iter nf F) plan_ready_keep 0 (plan_ready_L0 nf )) (plan_ready_m0 l' done s t10) = plan_ready_b0 nf  l' done  (fun s t10 => iter fu (LC.F tab (plan_ready_phi nf) (fun _ F => iter nf F) plan_ready_keep 0 (plan_ready_L0 nf )) (plan_ready_m0 l' done s t10)) s t10 := by kernel_rfl
theorem plan_ready_e0 (nf : Nat)  (l' : List Int) (done : Int) : ∀ (fu : Nat) (s : Int) (t10 : Int), iter fu (LC.F tab (plan_ready_phi nf) (fun _ F => iter nf F) plan_ready_keep 0 (plan_ready_L0 nf )) (plan_ready_m0 l' done s t10) = plan_ready_l0 nf l' done  fu s t10 := by
  intro fu
  induction fu with
  | zero => intros; rfl
  | succ fu ih =>
    intro s t10
    rw [plan_ready_h0 nf  l' done fu s t10]
    simp only [ih]
    rfl
theorem plan_ready_eq (nf : Nat) (l' : List Int) (done : Int) : runF tab (plan_ready_phi nf) plan_ready_keep nf [PT.val (Ty.int IntKind.u32).sl (Md.bor true false), PT.val (Ty.int IntKind.u32) (Md.bor true false)] [(Ty.int IntKind.u32, Md.bor false true)] (resL (none) Try.f43) (codeOf Try.f43) ⟨l', done, ()⟩ = plan_ready_f nf l' done := by
  have h : runF tab (plan_ready_phi nf) plan_ready_keep nf [PT.val (Ty.int IntKind.u32).sl (Md.bor true false), PT.val (Ty.int IntKind.u32) (Md.bor true false)] [(Ty.int IntKind.u32, Md.bor false true)] (resL (none) Try.f43) (codeOf Try.f43) ⟨l', done, ()⟩ = plan_ready_p nf (fun p0 p1 v0 v1 => iter nf (LC.F tab (plan_ready_phi nf) (fun _ F => iter nf F) plan_ready_keep 0 (plan_ready_L0 nf)) (plan_ready_m0 p0 p1 v0 v1)) l' done := by kernel_rfl
  rw [h]
  simp only [plan_ready_e0]
  rfl
def plan_ready_F (nf : Nat) (x : denPs [.val (.sl (.int .u32)) (.bor true false), .val (.int .u32) (.bor true false)]) : Option (denL [(.int .u32, .bor false true)]) := plan_ready_f nf x.1 x.2.1
def plan_ready_C (nf : Nat) : Contract := ⟨[.val (.sl (.int .u32)) (.bor true false), .val (.int .u32) (.bor true false)], [(.int .u32, .bor false true)], plan_ready_F nf, none⟩
theorem plan_ready_ok : FnOK Try.prog 43 := ⟨Try.f43, codeOf Try.f43, Try.func43, by kernel_rfl, by kernel_rfl⟩
theorem plan_ready_holds (nf : Nat) : Contract.Holds Try.prog 43 (plan_ready_C nf) :=
  fn_holds (Φ := plan_ready_phi nf) (keep := plan_ready_keep) (n := nf) ⟨tabs.1, tabs.2, ctx_nil, mixed⟩ (fn := Try.f43) ⟨Try.func43, by kernel_rfl, by kernel_rfl, by kernel_rfl⟩ (fun x => plan_ready_eq nf x.1 x.2.1)

/-! codemason plan.ahead -/
def plan_ahead_phi (nf : Nat) : Nat → Option Contract := lookC [(43, plan_ready_C nf)]
def plan_ahead_keep : Nat → List Nat := lookK [(2, [0, 6, 9, 22, 55, 56]), (0, [0, 1, 6, 22, 23, 24, 25])]
def plan_ahead_b0 (nf : Nat) (l2 : Int → List Int → Int → Int → Option (List Int × Int × Unit)) (n' : Int) (pairs : List (Int × Int × Unit)) (g0 : List Int → Int → Option (List Int × Int × Unit)) (l' : List Int) (t25 : Int) : Option (List Int × Int × Unit) :=
  bif decide (t25 < (↑pairs.length : Int)) then
    bif inb t25 pairs.length then
      bif decide ((if (pairs.getD t25.toNat (0, 0, ())).snd.fst < (pairs.getD t25.toNat (0, 0, ())).fst then (pairs.getD t25.toNat (0, 0, ())).snd.fst else (pairs.getD t25.toNat (0, 0, ())).fst) < 0) then
        some (([], 2, ()))
      else
        bif decide ((if (pairs.getD t25.toNat (0, 0, ())).snd.fst > (pairs.getD t25.toNat (0, 0, ())).fst then (pairs.getD t25.toNat (0, 0, ())).snd.fst else (pairs.getD t25.toNat (0, 0, ())).fst) ≥ n') then
          some (([], 2, ()))
        else
          bif inb (pairs.getD t25.toNat (0, 0, ())).snd.fst l'.length then
            bif decide (0 ≤ (pairs.getD t25.toNat (0, 0, ())).fst) then
              bif inb (pairs.getD t25.toNat (0, 0, ())).snd.fst l'.length then
                g0 (l'.set (Int.toNat (pairs.getD t25.toNat (0, 0, ())).snd.fst) (IntKind.u32.wrap (↑(BitVec.ofInt IntKind.u32.bits (l'.getD (Int.toNat (pairs.getD t25.toNat (0, 0, ())).snd.fst) 0) ||| BitVec.ofInt IntKind.u32.bits (shlI IntKind.u32 1 (pairs.getD t25.toNat (0, 0, ())).fst)).toNat : Int))) (IntKind.i64.wrap (t25 + 1))
              else
                none
            else
              none
          else
            none
    else
      none
  else
    l2 n' l' 0 0
def plan_ahead_b2 (nf : Nat) (n' : Int) (g2 : List Int → Int → Int → Option (List Int × Int × Unit)) (l'2 : List Int) (done : Int) (t56 : Int) : Option (List Int × Int × Unit) :=
  bif decide (t56 < n') then
    Option.bind (plan_ready_f nf l'2 done) fun r =>
    g2 l'2 (IntKind.u32.wrap (↑(BitVec.ofInt IntKind.u32.bits done ||| BitVec.ofInt IntKind.u32.bits r.fst).toNat : Int)) (IntKind.i64.wrap (t56 + 1))
  else
    bif decide (0 ≤ n') then
      bif done != IntKind.u32.wrap (shlI IntKind.u32 1 n' - 1) then
        some (([], 3, ()))
      else
        some ((l'2, 0, ()))
    else
      none
def plan_ahead_p (nf : Nat) (l0 : Int → List (Int × Int × Unit) → List Int → Int → Option (List Int × Int × Unit)) (n' : Int) (pairs : List (Int × Int × Unit)) : Option (List Int × Int × Unit) :=
  bif decide (n' < 1) then
    some (([], 1, ()))
  else
    bif decide (n' > 8) then
      some (([], 1, ()))
    else
      bif decide ((↑pairs.length : Int) > 28) then
        some (([], 1, ()))
      else
        bif decide (0 ≤ n') && decide (n' ≤ n') && decide (n' ≤ (↑lim : Int)) then
          l0 n' pairs (List.replicate n'.toNat 0) 0
        else
          none
def plan_ahead_l2 (nf : Nat) (n' : Int) : Nat → List Int → Int → Int → Option (List Int × Int × Unit)
  | 0, _, _, _ => none
  | fu + 1, l'2, done, t56 => plan_ahead_b2 nf  n'  (plan_ahead_l2 nf n'  fu) l'2 done t56
def plan_ahead_l0 (nf : Nat) (n' : Int) (pairs : List (Int × Int × Unit)) : Nat → List Int → Int → Option (List Int × Int × Unit)
  | 0, _, _ => none
  | fu + 1, l', t25 => plan_ahead_b0 nf (fun _ v0 v1 v2 => plan_ahead_l2 nf n'  nf v0 v1 v2) n' pairs  (plan_ahead_l0 nf n' pairs  fu) l' t25
def plan_ahead_f (nf : Nat) (n' : Int) (pairs : List (Int × Int × Unit)) : Option (List Int × Int × Unit) := plan_ahead_p nf (fun p0 p1 v0 v1 => plan_ahead_l0 nf p0 p1 nf v0 v1) n' pairs
noncomputable def plan_ahead_L0 (nf : Nat) : LC (List Int × Int × Unit) := theL (findL tab (plan_ahead_phi nf) (fun _ F => iter nf F) plan_ahead_keep 0 0 (codeOf Try.f41) (fin tab [((Ty.int IntKind.u32).sl, Md.own false (Md.bor false false)), (Ty.int IntKind.i64, Md.bor false true)] (resL (none) Try.f41)) (fun _ _ => none) (fin tab [((Ty.int IntKind.u32).sl, Md.own false (Md.bor false false)), (Ty.int IntKind.i64, Md.bor false true)] (resL (none) Try.f41)))
def plan_ahead_m0 (n' : Int) (pairs : List (Int × Int × Unit)) (l' : List Int) (t25 : Int) : St := ⟨fresh, [(0, AV.v (Ty.int IntKind.i64) (Md.bor false true) n'), (1, AV.v ((Ty.int IntKind.i64).pair ((Ty.int IntKind.i64).pair Ty.unit)).sl (Md.bor true false) pairs), (6, AV.ow 500006 (Ty.int IntKind.u32).sl (Md.own false (Md.bor false false)) l'), (22, AV.dead), (23, AV.v ((Ty.int IntKind.i64).pair ((Ty.int IntKind.i64).pair Ty.unit)).sl (Md.bor true false) pairs), (24, AV.v (Ty.int IntKind.i64) (Md.bor false true) (↑pairs.length : Int)), (25, AV.v (Ty.int IntKind.i64) (Md.bor false true) t25)]⟩
noncomputable def plan_ahead_L2 (nf : Nat) : LC (List Int × Int × Unit) := theL (findL tab (plan_ahead_phi nf) (fun _ F => iter nf F) plan_ahead_keep 2 0 (codeOf Try.f41) (fin tab [((Ty.int IntKind.u32).sl, Md.own false (Md.bor false false)), (Ty.int IntKind.i64, Md.bor false true)] (resL (none) Try.f41)) (fun _ _ => none) (fin tab [((Ty.int IntKind.u32).sl, Md.own false (Md.bor false false)), (Ty.int IntKind.i64, Md.bor false true)] (resL (none) Try.f41)))
def plan_ahead_m2 (n' : Int) (l'2 : List Int) (done : Int) (t56 : Int) : St := ⟨fresh, [(0, AV.v (Ty.int IntKind.i64) (Md.bor false true) n'), (6, AV.ow 500006 (Ty.int IntKind.u32).sl (Md.own false (Md.bor false false)) l'2), (9, AV.v (Ty.int IntKind.u32) (Md.bor false true) done), (22, AV.dead), (55, AV.v (Ty.int IntKind.i64) (Md.bor false true) n'), (56, AV.v (Ty.int IntKind.i64) (Md.bor false true) t56)]⟩
theorem plan_ahead_h2 (nf : Nat)  (n' : Int) (fu : Nat) (l'2 : List Int) (done : Int) (t56 : Int) : iter (fu + 1) (LC.F tab (plan_ahead_phi nf) (fun _ F => iter nf F) plan_ahead_keep 2 (plan_ahead_L2 nf )) (plan_ahead_m2 n' l'2 done t56) = plan_ahead_b2 nf  n'  (fun l'2 done t56 => iter fu (LC.F tab (plan_ahead_phi nf) (fun _ F => iter nf F) plan_ahead_keep 2 (plan_ahead_L2 nf )) (plan_ahead_m2 n' l'2 done t56)) l'2 done t56 := by kernel_rfl
theorem plan_ahead_e2 (nf : Nat)  (n' : Int) : ∀ (fu : Nat) (l'2 : List Int) (done : Int) (t56 : Int), iter fu (LC.F tab (plan_ahead_phi nf) (fun _ F => iter nf F) plan_ahead_keep 2 (plan_ahead_L2 nf )) (plan_ahead_m2 n' l'2 done t56) = plan_ahead_l2 nf n'  fu l'2 done t56 := by
  intro fu
  induction fu with
  | zero => intros; rfl
  | succ fu ih =>
    intro l'2 done t56
    rw [plan_ahead_h2 nf  n' fu l'2 done t56]
    simp only [ih]
    rfl
theorem plan_ahead_h0 (nf : Nat)  (n' : Int) (pairs : List (Int × Int × Unit)) (fu : Nat) (l' : List Int) (t25 : Int) : iter (fu + 1) (LC.F tab (plan_ahead_phi nf) (fun _ F => iter nf F) plan_ahead_keep 0 (plan_ahead_L0 nf )) (plan_ahead_m0 n' pairs l' t25) = plan_ahead_b0 nf (fun _ v0 v1 v2 => iter nf (LC.F tab (plan_ahead_phi nf) (fun _ F => iter nf F) plan_ahead_keep 2 (plan_ahead_L2 nf )) (plan_ahead_m2 n' v0 v1 v2)) n' pairs  (fun l' t25 => iter fu (LC.F tab (plan_ahead_phi nf) (fun _ F => iter nf F) plan_ahead_keep 0 (plan_ahead_L0 nf )) (plan_ahead_m0 n' pairs l' t25)) l' t25 := by kernel_rfl
theorem plan_ahead_e0 (nf : Nat)  (n' : Int) (pairs : List (Int × Int × Unit)) : ∀ (fu : Nat) (l' : List Int) (t25 : Int), iter fu (LC.F tab (plan_ahead_phi nf) (fun _ F => iter nf F) plan_ahead_keep 0 (plan_ahead_L0 nf )) (plan_ahead_m0 n' pairs l' t25) = plan_ahead_l0 nf n' pairs  fu l' t25 := by
  intro fu
  induction fu with
  | zero => intros; rfl
  | succ fu ih =>
    intro l' t25
    rw [plan_ahead_h0 nf  n' pairs fu l' t25]
    simp only [ih, plan_ahead_e2]
    rfl
theorem plan_ahead_eq (nf : Nat) (n' : Int) (pairs : List (Int × Int × Unit)) : runF tab (plan_ahead_phi nf) plan_ahead_keep nf [PT.val (Ty.int IntKind.i64) (Md.bor true false), PT.val ((Ty.int IntKind.i64).pair ((Ty.int IntKind.i64).pair Ty.unit)).sl (Md.bor true false)] [((Ty.int IntKind.u32).sl, Md.own false (Md.bor false false)), (Ty.int IntKind.i64, Md.bor false true)] (resL (none) Try.f41) (codeOf Try.f41) ⟨n', pairs, ()⟩ = plan_ahead_f nf n' pairs := by
  have h : runF tab (plan_ahead_phi nf) plan_ahead_keep nf [PT.val (Ty.int IntKind.i64) (Md.bor true false), PT.val ((Ty.int IntKind.i64).pair ((Ty.int IntKind.i64).pair Ty.unit)).sl (Md.bor true false)] [((Ty.int IntKind.u32).sl, Md.own false (Md.bor false false)), (Ty.int IntKind.i64, Md.bor false true)] (resL (none) Try.f41) (codeOf Try.f41) ⟨n', pairs, ()⟩ = plan_ahead_p nf (fun p0 p1 v0 v1 => iter nf (LC.F tab (plan_ahead_phi nf) (fun _ F => iter nf F) plan_ahead_keep 0 (plan_ahead_L0 nf)) (plan_ahead_m0 p0 p1 v0 v1)) n' pairs := by kernel_rfl
  rw [h]
  simp only [plan_ahead_e0]
  rfl
def plan_ahead_F (nf : Nat) (x : denPs [.val (.int .i64) (.bor true false), .val (.sl (.pair (.int .i64) (.pair (.int .i64) (.unit)))) (.bor true false)]) : Option (denL [(.sl (.int .u32), .own false (.bor false false)), (.int .i64, .bor false true)]) := plan_ahead_f nf x.1 x.2.1
def plan_ahead_C (nf : Nat) : Contract := ⟨[.val (.int .i64) (.bor true false), .val (.sl (.pair (.int .i64) (.pair (.int .i64) (.unit)))) (.bor true false)], [(.sl (.int .u32), .own false (.bor false false)), (.int .i64, .bor false true)], plan_ahead_F nf, none⟩
theorem plan_ahead_ok : FnOK Try.prog 41 := ⟨Try.f41, codeOf Try.f41, Try.func41, by kernel_rfl, by kernel_rfl⟩
theorem plan_ahead_holds (nf : Nat) : Contract.Holds Try.prog 41 (plan_ahead_C nf) :=
  fn_holds (Φ := plan_ahead_phi nf) (keep := plan_ahead_keep) (n := nf) ⟨tabs.1, tabs.2, (ctx_cons plan_ready_ok (plan_ready_holds nf) ctx_nil), mixed⟩ (fn := Try.f41) ⟨Try.func41, by kernel_rfl, by kernel_rfl, by kernel_rfl⟩ (fun x => plan_ahead_eq nf x.1 x.2.1)

/-! codemason plan.Levels -/
def plan_Levels_phi (nf : Nat) : Nat → Option Contract := lookC [(41, plan_ahead_C nf)]
def plan_Levels_keep : Nat → List Nat := lookK [(4, [6, 8, 9, 10, 12, 15, 16, 22, 23, 24, 26, 27, 28, 42, 43]), (2, [6, 8, 12, 15, 16, 22, 23, 24, 26, 27, 28]), (0, [6, 8, 12, 15, 16, 22, 23, 24])]
def plan_Levels_b0 (nf : Nat) (l2 : Int → Int → List Int → List Int → List Int → Int → Option (List Int × Int × Unit)) (n' : Int) (g0 : List Int → List Int → Int → Option (List Int × Int × Unit)) (l' : List Int) (out : List Int) (t24 : Int) : Option (List Int × Int × Unit) :=
  bif decide (t24 < n') then
    l2 n' t24 l' l' out 0
  else
    some ((out, 0, ()))
def plan_Levels_b2 (nf : Nat) (l4 : Int → List Int → Int → Int → List Int → List Int → List Int → List Int → Int → Option (List Int × Int × Unit)) (n' : Int) (t24 : Int) (l' : List Int) (g0 : List Int → List Int → Int → Option (List Int × Int × Unit)) (g2 : List Int → List Int → Int → Option (List Int × Int × Unit)) (l'2 : List Int) (out2 : List Int) (t28 : Int) : Option (List Int × Int × Unit) :=
  bif decide (t28 < (↑l'.length : Int)) then
    bif inb t28 l'2.length then
      bif inb t28 out2.length then
        bif inb t28 out2.length then
          l4 t28 l'2 n' t24 l' out2 l'2 (out2.set t28.toNat (if 1 > out2.getD t28.toNat 0 then 1 else out2.getD t28.toNat 0)) 0
        else
          none
      else
        none
    else
      none
  else
    g0 l'2 out2 (IntKind.i64.wrap (t24 + 1))
def plan_Levels_b4 (nf : Nat) (t28 : Int) (l'2 : List Int) (n' : Int) (t24 : Int) (l' : List Int) (out2 : List Int) (g2 : List Int → List Int → Int → Option (List Int × Int × Unit)) (g0 : List Int → List Int → Int → Option (List Int × Int × Unit)) (g4 : List Int → List Int → Int → Option (List Int × Int × Unit)) (l'3 : List Int) (out3 : List Int) (t43 : Int) : Option (List Int × Int × Unit) :=
  bif decide (t43 < (↑(out2.set t28.toNat (if 1 > out2.getD t28.toNat 0 then 1 else out2.getD t28.toNat 0)).length : Int)) then
    bif decide (0 ≤ t43) then
      bif IntKind.u32.wrap (↑(BitVec.ofInt IntKind.u32.bits (shrI IntKind.u32 (l'2.getD t28.toNat 0) t43) &&& BitVec.ofInt IntKind.u32.bits 1).toNat : Int) == 1 then
        bif inb t43 out3.length then
          bif inb t28 out3.length then
            bif inb t43 out3.length then
              g4 l'3 (out3.set t43.toNat (if IntKind.i64.wrap (out3.getD t28.toNat 0 + 1) > out3.getD t43.toNat 0 then IntKind.i64.wrap (out3.getD t28.toNat 0 + 1) else out3.getD t43.toNat 0)) (IntKind.i64.wrap (t43 + 1))
            else
              none
          else
            none
        else
          none
      else
        g4 l'3 out3 (IntKind.i64.wrap (t43 + 1))
    else
      none
  else
    g2 l'3 out3 (IntKind.i64.wrap (t28 + 1))
def plan_Levels_p (nf : Nat) (l0 : Int → List Int → List Int → Int → Option (List Int × Int × Unit)) (n' : Int) (pairs : List (Int × Int × Unit)) : Option (List Int × Int × Unit) :=
  Option.bind (plan_ahead_f nf n' pairs) fun r =>
  bif r.snd.fst != 0 then
    some (([], r.snd.fst, ()))
  else
    bif decide (0 ≤ n') && decide (n' ≤ n') && decide (n' ≤ (↑lim : Int)) then
      l0 n' r.fst (List.replicate n'.toNat 0) 0
    else
      none
def plan_Levels_l4 (nf : Nat) (t28 : Int) (l'2 : List Int) (n' : Int) (t24 : Int) (l' : List Int) (out2 : List Int) (g2 : List Int → List Int → Int → Option (List Int × Int × Unit)) (g0 : List Int → List Int → Int → Option (List Int × Int × Unit)) : Nat → List Int → List Int → Int → Option (List Int × Int × Unit)
  | 0, _, _, _ => none
  | fu + 1, l'3, out3, t43 => plan_Levels_b4 nf  t28 l'2 n' t24 l' out2 g2 g0 (plan_Levels_l4 nf t28 l'2 n' t24 l' out2 g2 g0 fu) l'3 out3 t43
def plan_Levels_l2 (nf : Nat) (n' : Int) (t24 : Int) (l' : List Int) (g0 : List Int → List Int → Int → Option (List Int × Int × Unit)) : Nat → List Int → List Int → Int → Option (List Int × Int × Unit)
  | 0, _, _, _ => none
  | fu + 1, l'2, out2, t28 => plan_Levels_b2 nf (fun p0 p1 _ _ _ p5 v0 v1 v2 => plan_Levels_l4 nf p0 p1 n' t24 l' p5 (fun l'2 out2 t28 => plan_Levels_l2 nf n' t24 l' g0 fu l'2 out2 t28) g0 nf v0 v1 v2) n' t24 l' g0 (plan_Levels_l2 nf n' t24 l' g0 fu) l'2 out2 t28
def plan_Levels_l0 (nf : Nat) (n' : Int) : Nat → List Int → List Int → Int → Option (List Int × Int × Unit)
  | 0, _, _, _ => none
  | fu + 1, l', out, t24 => plan_Levels_b0 nf (fun _ p1 p2 v0 v1 v2 => plan_Levels_l2 nf n' p1 p2 (fun l' out t24 => plan_Levels_l0 nf n'  fu l' out t24) nf v0 v1 v2) n'  (plan_Levels_l0 nf n'  fu) l' out t24
def plan_Levels_f (nf : Nat) (n' : Int) (pairs : List (Int × Int × Unit)) : Option (List Int × Int × Unit) := plan_Levels_p nf (fun p0 v0 v1 v2 => plan_Levels_l0 nf p0 nf v0 v1 v2) n' pairs
noncomputable def plan_Levels_L0 (nf : Nat) : LC (List Int × Int × Unit) := theL (findL tab (plan_Levels_phi nf) (fun _ F => iter nf F) plan_Levels_keep 0 0 (codeOf Try.f23) (fin tab [((Ty.int IntKind.i64).sl, Md.own false (Md.bor false false)), (Ty.int IntKind.i64, Md.bor false true)] (resL (none) Try.f23)) (fun _ _ => none) (fin tab [((Ty.int IntKind.i64).sl, Md.own false (Md.bor false false)), (Ty.int IntKind.i64, Md.bor false true)] (resL (none) Try.f23)))
def plan_Levels_m0 (n' : Int) (l' : List Int) (out : List Int) (t24 : Int) : St := ⟨fresh, [(6, AV.ow 500006 (Ty.int IntKind.u32).sl (Md.own false (Md.bor false false)) l'), (8, AV.ow 500008 (Ty.int IntKind.i64).sl (Md.own false (Md.bor false false)) out), (12, AV.dead), (15, AV.dead), (16, AV.dead), (22, AV.dead), (23, AV.v (Ty.int IntKind.i64) (Md.bor false true) n'), (24, AV.v (Ty.int IntKind.i64) (Md.bor false true) t24)]⟩
noncomputable def plan_Levels_L2 (nf : Nat) (G0 : St → Option (List Int × Int × Unit)) : LC (List Int × Int × Unit) := theL (findL tab (plan_Levels_phi nf) (fun _ F => iter nf F) plan_Levels_keep 2 0 (plan_Levels_L0 nf ).c (fun st => norm (plan_Levels_keep 0) st G0) (plan_Levels_L0 nf ).Kx (plan_Levels_L0 nf ).Kr)
def plan_Levels_m2 (n' : Int) (t24 : Int) (l' : List Int) (l'2 : List Int) (out2 : List Int) (t28 : Int) : St := ⟨fresh, [(6, AV.ow 500006 (Ty.int IntKind.u32).sl (Md.own false (Md.bor false false)) l'2), (8, AV.ow 500008 (Ty.int IntKind.i64).sl (Md.own false (Md.bor false false)) out2), (12, AV.dead), (15, AV.dead), (16, AV.dead), (22, AV.dead), (23, AV.v (Ty.int IntKind.i64) (Md.bor false true) n'), (24, AV.v (Ty.int IntKind.i64) (Md.bor false true) t24), (26, AV.al 6 500006 []), (27, AV.v (Ty.int IntKind.i64) (Md.bor false true) (↑l'.length : Int)), (28, AV.v (Ty.int IntKind.i64) (Md.bor false true) t28)]⟩
noncomputable def plan_Levels_L4 (nf : Nat) (G0 : St → Option (List Int × Int × Unit)) (G2 : St → Option (List Int × Int × Unit)) : LC (List Int × Int × Unit) := theL (findL tab (plan_Levels_phi nf) (fun _ F => iter nf F) plan_Levels_keep 4 2 (plan_Levels_L2 nf G0).c (fun st => norm (plan_Levels_keep 2) st G2) (plan_Levels_L2 nf G0).Kx (plan_Levels_L2 nf G0).Kr)
def plan_Levels_m4 (t28 : Int) (l'2 : List Int) (n' : Int) (t24 : Int) (l' : List Int) (out2 : List Int) (l'3 : List Int) (out3 : List Int) (t43 : Int) : St := ⟨fresh, [(6, AV.ow 500006 (Ty.int IntKind.u32).sl (Md.own false (Md.bor false false)) l'3), (8, AV.ow 500008 (Ty.int IntKind.i64).sl (Md.own false (Md.bor false false)) out3), (9, AV.v (Ty.int IntKind.i64) (Md.bor false true) t28), (10, AV.v (Ty.int IntKind.u32) (Md.bor false true) (l'2.getD t28.toNat 0)), (12, AV.dead), (15, AV.dead), (16, AV.dead), (22, AV.dead), (23, AV.v (Ty.int IntKind.i64) (Md.bor false true) n'), (24, AV.v (Ty.int IntKind.i64) (Md.bor false true) t24), (26, AV.al 6 500006 []), (27, AV.v (Ty.int IntKind.i64) (Md.bor false true) (↑l'.length : Int)), (28, AV.v (Ty.int IntKind.i64) (Md.bor false true) t28), (42, AV.v (Ty.int IntKind.i64) (Md.bor false true) (↑(out2.set t28.toNat (if 1 > out2.getD t28.toNat 0 then 1 else out2.getD t28.toNat 0)).length : Int)), (43, AV.v (Ty.int IntKind.i64) (Md.bor false true) t43)]⟩
theorem plan_Levels_h4 (nf : Nat) (G0 : St → Option (List Int × Int × Unit)) (G2 : St → Option (List Int × Int × Unit)) (t28 : Int) (l'2 : List Int) (n' : Int) (t24 : Int) (l' : List Int) (out2 : List Int) (fu : Nat) (l'3 : List Int) (out3 : List Int) (t43 : Int) : iter (fu + 1) (LC.F tab (plan_Levels_phi nf) (fun _ F => iter nf F) plan_Levels_keep 4 (plan_Levels_L4 nf G0 G2)) (plan_Levels_m4 t28 l'2 n' t24 l' out2 l'3 out3 t43) = plan_Levels_b4 nf  t28 l'2 n' t24 l' out2 (fun l'2 out2 t28 => G2 (plan_Levels_m2 n' t24 l' l'2 out2 t28)) (fun l' out t24 => G0 (plan_Levels_m0 n' l' out t24)) (fun l'3 out3 t43 => iter fu (LC.F tab (plan_Levels_phi nf) (fun _ F => iter nf F) plan_Levels_keep 4 (plan_Levels_L4 nf G0 G2)) (plan_Levels_m4 t28 l'2 n' t24 l' out2 l'3 out3 t43)) l'3 out3 t43 := by kernel_rfl
theorem plan_Levels_e4 (nf : Nat) (G0 : St → Option (List Int × Int × Unit)) (G2 : St → Option (List Int × Int × Unit)) (t28 : Int) (l'2 : List Int) (n' : Int) (t24 : Int) (l' : List Int) (out2 : List Int) : ∀ (fu : Nat) (l'3 : List Int) (out3 : List Int) (t43 : Int), iter fu (LC.F tab (plan_Levels_phi nf) (fun _ F => iter nf F) plan_Levels_keep 4 (plan_Levels_L4 nf G0 G2)) (plan_Levels_m4 t28 l'2 n' t24 l' out2 l'3 out3 t43) = plan_Levels_l4 nf t28 l'2 n' t24 l' out2 (fun l'2 out2 t28 => G2 (plan_Levels_m2 n' t24 l' l'2 out2 t28)) (fun l' out t24 => G0 (plan_Levels_m0 n' l' out t24)) fu l'3 out3 t43 := by
  intro fu
  induction fu with
  | zero => intros; rfl
  | succ fu ih =>
    intro l'3 out3 t43
    rw [plan_Levels_h4 nf G0 G2 t28 l'2 n' t24 l' out2 fu l'3 out3 t43]
    simp only [ih]
    rfl
theorem plan_Levels_h2 (nf : Nat) (G0 : St → Option (List Int × Int × Unit)) (n' : Int) (t24 : Int) (l' : List Int) (fu : Nat) (l'2 : List Int) (out2 : List Int) (t28 : Int) : iter (fu + 1) (LC.F tab (plan_Levels_phi nf) (fun _ F => iter nf F) plan_Levels_keep 2 (plan_Levels_L2 nf G0)) (plan_Levels_m2 n' t24 l' l'2 out2 t28) = plan_Levels_b2 nf (fun p0 p1 _ _ _ p5 v0 v1 v2 => iter nf (LC.F tab (plan_Levels_phi nf) (fun _ F => iter nf F) plan_Levels_keep 4 (plan_Levels_L4 nf G0 (iter fu (LC.F tab (plan_Levels_phi nf) (fun _ F => iter nf F) plan_Levels_keep 2 (plan_Levels_L2 nf G0))))) (plan_Levels_m4 p0 p1 n' t24 l' p5 v0 v1 v2)) n' t24 l' (fun l' out t24 => G0 (plan_Levels_m0 n' l' out t24)) (fun l'2 out2 t28 => iter fu (LC.F tab (plan_Levels_phi nf) (fun _ F => iter nf F) plan_Levels_keep 2 (plan_Levels_L2 nf G0)) (plan_Levels_m2 n' t24 l' l'2 out2 t28)) l'2 out2 t28 := by kernel_rfl
theorem plan_Levels_e2 (nf : Nat) (G0 : St → Option (List Int × Int × Unit)) (n' : Int) (t24 : Int) (l' : List Int) : ∀ (fu : Nat) (l'2 : List Int) (out2 : List Int) (t28 : Int), iter fu (LC.F tab (plan_Levels_phi nf) (fun _ F => iter nf F) plan_Levels_keep 2 (plan_Levels_L2 nf G0)) (plan_Levels_m2 n' t24 l' l'2 out2 t28) = plan_Levels_l2 nf n' t24 l' (fun l' out t24 => G0 (plan_Levels_m0 n' l' out t24)) fu l'2 out2 t28 := by
  intro fu
  induction fu with
  | zero => intros; rfl
  | succ fu ih =>
    intro l'2 out2 t28
    rw [plan_Levels_h2 nf G0 n' t24 l' fu l'2 out2 t28]
    simp only [ih, plan_Levels_e4]
    rfl
theorem plan_Levels_h0 (nf : Nat)  (n' : Int) (fu : Nat) (l' : List Int) (out : List Int) (t24 : Int) : iter (fu + 1) (LC.F tab (plan_Levels_phi nf) (fun _ F => iter nf F) plan_Levels_keep 0 (plan_Levels_L0 nf )) (plan_Levels_m0 n' l' out t24) = plan_Levels_b0 nf (fun _ p1 p2 v0 v1 v2 => iter nf (LC.F tab (plan_Levels_phi nf) (fun _ F => iter nf F) plan_Levels_keep 2 (plan_Levels_L2 nf (iter fu (LC.F tab (plan_Levels_phi nf) (fun _ F => iter nf F) plan_Levels_keep 0 (plan_Levels_L0 nf ))))) (plan_Levels_m2 n' p1 p2 v0 v1 v2)) n'  (fun l' out t24 => iter fu (LC.F tab (plan_Levels_phi nf) (fun _ F => iter nf F) plan_Levels_keep 0 (plan_Levels_L0 nf )) (plan_Levels_m0 n' l' out t24)) l' out t24 := by kernel_rfl
theorem plan_Levels_e0 (nf : Nat)  (n' : Int) : ∀ (fu : Nat) (l' : List Int) (out : List Int) (t24 : Int), iter fu (LC.F tab (plan_Levels_phi nf) (fun _ F => iter nf F) plan_Levels_keep 0 (plan_Levels_L0 nf )) (plan_Levels_m0 n' l' out t24) = plan_Levels_l0 nf n'  fu l' out t24 := by
  intro fu
  induction fu with
  | zero => intros; rfl
  | succ fu ih =>
    intro l' out t24
    rw [plan_Levels_h0 nf  n' fu l' out t24]
    simp only [ih, plan_Levels_e2]
    rfl
theorem plan_Levels_eq (nf : Nat) (n' : Int) (pairs : List (Int × Int × Unit)) : runF tab (plan_Levels_phi nf) plan_Levels_keep nf [PT.val (Ty.int IntKind.i64) (Md.bor true false), PT.val ((Ty.int IntKind.i64).pair ((Ty.int IntKind.i64).pair Ty.unit)).sl (Md.bor true false)] [((Ty.int IntKind.i64).sl, Md.own false (Md.bor false false)), (Ty.int IntKind.i64, Md.bor false true)] (resL (none) Try.f23) (codeOf Try.f23) ⟨n', pairs, ()⟩ = plan_Levels_f nf n' pairs := by
  have h : runF tab (plan_Levels_phi nf) plan_Levels_keep nf [PT.val (Ty.int IntKind.i64) (Md.bor true false), PT.val ((Ty.int IntKind.i64).pair ((Ty.int IntKind.i64).pair Ty.unit)).sl (Md.bor true false)] [((Ty.int IntKind.i64).sl, Md.own false (Md.bor false false)), (Ty.int IntKind.i64, Md.bor false true)] (resL (none) Try.f23) (codeOf Try.f23) ⟨n', pairs, ()⟩ = plan_Levels_p nf (fun p0 v0 v1 v2 => iter nf (LC.F tab (plan_Levels_phi nf) (fun _ F => iter nf F) plan_Levels_keep 0 (plan_Levels_L0 nf)) (plan_Levels_m0 p0 v0 v1 v2)) n' pairs := by kernel_rfl
  rw [h]
  simp only [plan_Levels_e0]
  rfl
def plan_Levels_F (nf : Nat) (x : denPs [.val (.int .i64) (.bor true false), .val (.sl (.pair (.int .i64) (.pair (.int .i64) (.unit)))) (.bor true false)]) : Option (denL [(.sl (.int .i64), .own false (.bor false false)), (.int .i64, .bor false true)]) := plan_Levels_f nf x.1 x.2.1
def plan_Levels_C (nf : Nat) : Contract := ⟨[.val (.int .i64) (.bor true false), .val (.sl (.pair (.int .i64) (.pair (.int .i64) (.unit)))) (.bor true false)], [(.sl (.int .i64), .own false (.bor false false)), (.int .i64, .bor false true)], plan_Levels_F nf, none⟩
theorem plan_Levels_ok : FnOK Try.prog 23 := ⟨Try.f23, codeOf Try.f23, Try.func23, by kernel_rfl, by kernel_rfl⟩
theorem plan_Levels_holds (nf : Nat) : Contract.Holds Try.prog 23 (plan_Levels_C nf) :=
  fn_holds (Φ := plan_Levels_phi nf) (keep := plan_Levels_keep) (n := nf) ⟨tabs.1, tabs.2, (ctx_cons plan_ahead_ok (plan_ahead_holds nf) ctx_nil), mixed⟩ (fn := Try.f23) ⟨Try.func23, by kernel_rfl, by kernel_rfl, by kernel_rfl⟩ (fun x => plan_Levels_eq nf x.1 x.2.1)

/-! codemason codemasonref.Has -/
def ref_Has_phi (nf : Nat) : Nat → Option Contract := lookC []
def ref_Has_keep : Nat → List Nat := lookK [(0, [0, 1, 7, 8, 9])]
def ref_Has_b0 (nf : Nat) (l' : List Int) (x : Int) (g0 : Int → Option (Bool × Unit)) (t9 : Int) : Option (Bool × Unit) :=
  bif decide (t9 < (↑l'.length : Int)) then
    bif inb t9 l'.length then
      bif x == l'.getD t9.toNat 0 then
        some ((true, ()))
      else
        g0 (IntKind.i64.wrap (t9 + 1))
    else
      none
  else
    some ((false, ()))
def ref_Has_p (nf : Nat) (l0 : List Int → Int → Int → Option (Bool × Unit)) (l' : List Int) (x : Int) : Option (Bool × Unit) :=
  l0 l' x 0
def ref_Has_l0 (nf : Nat) (l' : List Int) (x : Int) : Nat → Int → Option (Bool × Unit)
  | 0, _ => none
  | fu + 1, t9 => ref_Has_b0 nf  l' x  (ref_Has_l0 nf l' x  fu) t9
def ref_Has_f (nf : Nat) (l' : List Int) (x : Int) : Option (Bool × Unit) := ref_Has_p nf (fun p0 p1 v0 => ref_Has_l0 nf p0 p1 nf v0) l' x
noncomputable def ref_Has_L0 (nf : Nat) : LC (Bool × Unit) := theL (findL tab (ref_Has_phi nf) (fun _ F => iter nf F) ref_Has_keep 0 0 (codeOf Try.f21) (fin tab [(Ty.bool, Md.bor false true)] (resL (none) Try.f21)) (fun _ _ => none) (fin tab [(Ty.bool, Md.bor false true)] (resL (none) Try.f21)))
def ref_Has_m0 (l' : List Int) (x : Int) (t9 : Int) : St := ⟨fresh, [(0, AV.v (Ty.int IntKind.i64).sl (Md.bor true false) l'), (1, AV.v (Ty.int IntKind.i64) (Md.bor false true) x), (7, AV.v (Ty.int IntKind.i64).sl (Md.bor true false) l'), (8, AV.v (Ty.int IntKind.i64) (Md.bor false true) (↑l'.length : Int)), (9, AV.v (Ty.int IntKind.i64) (Md.bor false true) t9)]⟩
theorem ref_Has_h0 (nf : Nat)  (l' : List Int) (x : Int) (fu : Nat) (t9 : Int) : iter (fu + 1) (LC.F tab (ref_Has_phi nf) (fun _ F => iter nf F) ref_Has_keep 0 (ref_Has_L0 nf )) (ref_Has_m0 l' x t9) = ref_Has_b0 nf  l' x  (fun t9 => iter fu (LC.F tab (ref_Has_phi nf) (fun _ F => iter nf F) ref_Has_keep 0 (ref_Has_L0 nf )) (ref_Has_m0 l' x t9)) t9 := by kernel_rfl
theorem ref_Has_e0 (nf : Nat)  (l' : List Int) (x : Int) : ∀ (fu : Nat) (t9 : Int), iter fu (LC.F tab (ref_Has_phi nf) (fun _ F => iter nf F) ref_Has_keep 0 (ref_Has_L0 nf )) (ref_Has_m0 l' x t9) = ref_Has_l0 nf l' x  fu t9 := by
  intro fu
  induction fu with
  | zero => intros; rfl
  | succ fu ih =>
    intro t9
    rw [ref_Has_h0 nf  l' x fu t9]
    simp only [ih]
    rfl
theorem ref_Has_eq (nf : Nat) (l' : List Int) (x : Int) : runF tab (ref_Has_phi nf) ref_Has_keep nf [PT.val (Ty.int IntKind.i64).sl (Md.bor true false), PT.val (Ty.int IntKind.i64) (Md.bor true false)] [(Ty.bool, Md.bor false true)] (resL (none) Try.f21) (codeOf Try.f21) ⟨l', x, ()⟩ = ref_Has_f nf l' x := by
  have h : runF tab (ref_Has_phi nf) ref_Has_keep nf [PT.val (Ty.int IntKind.i64).sl (Md.bor true false), PT.val (Ty.int IntKind.i64) (Md.bor true false)] [(Ty.bool, Md.bor false true)] (resL (none) Try.f21) (codeOf Try.f21) ⟨l', x, ()⟩ = ref_Has_p nf (fun p0 p1 v0 => iter nf (LC.F tab (ref_Has_phi nf) (fun _ F => iter nf F) ref_Has_keep 0 (ref_Has_L0 nf)) (ref_Has_m0 p0 p1 v0)) l' x := by kernel_rfl
  rw [h]
  simp only [ref_Has_e0]
  rfl
def ref_Has_F (nf : Nat) (x : denPs [.val (.sl (.int .i64)) (.bor true false), .val (.int .i64) (.bor true false)]) : Option (denL [(.bool, .bor false true)]) := ref_Has_f nf x.1 x.2.1
def ref_Has_C (nf : Nat) : Contract := ⟨[.val (.sl (.int .i64)) (.bor true false), .val (.int .i64) (.bor true false)], [(.bool, .bor false true)], ref_Has_F nf, none⟩
theorem ref_Has_ok : FnOK Try.prog 21 := ⟨Try.f21, codeOf Try.f21, Try.func21, by kernel_rfl, by kernel_rfl⟩
theorem ref_Has_holds (nf : Nat) : Contract.Holds Try.prog 21 (ref_Has_C nf) :=
  fn_holds (Φ := ref_Has_phi nf) (keep := ref_Has_keep) (n := nf) ⟨tabs.1, tabs.2, ctx_nil, mixed⟩ (fn := Try.f21) ⟨Try.func21, by kernel_rfl, by kernel_rfl, by kernel_rfl⟩ (fun x => ref_Has_eq nf x.1 x.2.1)

/-! codemason codemasonref.Behinds -/
def ref_Behinds_tab : Tab := ⟨lookT [(2, .int .i64), (3, .int .i64), (4, .bool), (5, .int .u8), (6, .int .u8), (7, .pair (.int .i64) (.pair (.int .i64) (.pair (.bool) (.pair (.int .u8) (.unit))))), (8, .pair (.int .i64) (.pair (.int .i64) (.pair (.bool) (.pair (.int .u8) (.unit))))), (12, .int .u64), (21, .int .i32), (24, .sl (.pair (.int .i64) (.pair (.int .i64) (.unit)))), (25, .int .u32), (26, .int .i64), (30, .int .u64), (38, .sl (.int .i64)), (44, .sl (.sl (.int .i64))), (49, .pair (.int .i64) (.pair (.int .i64) (.unit))), (51, .sl (.pair (.int .i64) (.pair (.bool) (.pair (.int .i64) (.unit))))), (59, .sl (.pair (.int .i64) (.pair (.int .i64) (.pair (.int .i64) (.unit))))), (64, .sl (.int .u32)), (71, .pair (.int .i64) (.pair (.bool) (.pair (.int .i64) (.unit)))), (72, .pair (.int .i64) (.pair (.bool) (.pair (.int .i64) (.unit)))), (76, .pair (.int .i64) (.pair (.int .i64) (.pair (.int .i64) (.unit)))), (77, .pair (.int .i64) (.pair (.int .i64) (.pair (.int .i64) (.unit)))), (85, .int .u64), (95, .int .u8), (96, .int .u8), (99, .int .i32), (100, .int .i32)], lookM [(2, .bor false true), (3, .bor false true), (4, .bor false true), (5, .bor false true), (6, .bor false true), (7, .bor false true), (8, .bor false true), (12, .bor false true), (21, .bor false true), (24, .own false (.bor false false)), (25, .bor false true), (26, .bor false true), (30, .bor false true), (38, .own false (.bor false false)), (44, .own false (.own true (.bor false true))), (49, .bor false true), (51, .own false (.bor false false)), (59, .own false (.bor false false)), (64, .own false (.bor false false)), (71, .bor false true), (72, .bor false true), (76, .bor false true), (77, .bor false true), (85, .bor false true), (95, .bor false true), (96, .bor false true), (99, .bor false true), (100, .bor false true)], hasT [49, 91], hasT [9, 10, 11]⟩
theorem ref_Behinds_tabs : TabOK Try.prog ref_Behinds_tab ∧ EqOK Try.prog ref_Behinds_tab := tab_ok (by kernel_rfl) (by kernel_rfl)
def ref_Behinds_phi (nf : Nat) : Nat → Option Contract := lookC []
def ref_Behinds_keep : Nat → List Nat := lookK [(0, [1, 5, 9, 10, 11, 12])]
def ref_Behinds_b0 (nf : Nat) (pairs : List (Int × Int × Unit)) (g0 : List (List Int) → Int → Option (List (List Int) × Unit)) (out : List (List Int)) (t12 : Int) : Option (List (List Int) × Unit) :=
  bif decide (t12 < (↑pairs.length : Int)) then
    bif inb t12 pairs.length then
      bif inb (pairs.getD t12.toNat (0, 0, ())).fst out.length then
        bif ![(pairs.getD t12.toNat (0, 0, ())).snd.fst].isEmpty && (List.length (out.getD (Int.toNat (pairs.getD t12.toNat (0, 0, ())).fst) []) + [(pairs.getD t12.toNat (0, 0, ())).snd.fst].length).ble lim then
          bif inb (pairs.getD t12.toNat (0, 0, ())).fst out.length then
            bif decide ([Stp.el (Int.toNat (pairs.getD t12.toNat (0, 0, ())).fst)] = [] ++ [Stp.el (Int.toNat (pairs.getD t12.toNat (0, 0, ())).fst)]) then
              g0 (out.set (Int.toNat (pairs.getD t12.toNat (0, 0, ())).fst) (out.getD (Int.toNat (pairs.getD t12.toNat (0, 0, ())).fst) [] ++ [(pairs.getD t12.toNat (0, 0, ())).snd.fst])) (IntKind.i64.wrap (t12 + 1))
            else
              none
          else
            none
        else
          none
      else
        none
    else
      none
  else
    some ((out, ()))
def ref_Behinds_p (nf : Nat) (l0 : List (Int × Int × Unit) → List (List Int) → Int → Option (List (List Int) × Unit)) (n' : Int) (pairs : List (Int × Int × Unit)) : Option (List (List Int) × Unit) :=
  bif decide (0 ≤ n') && decide (n' ≤ n') && decide (n' ≤ (↑lim : Int)) then
    l0 pairs (List.replicate n'.toNat []) 0
  else
    none
def ref_Behinds_l0 (nf : Nat) (pairs : List (Int × Int × Unit)) : Nat → List (List Int) → Int → Option (List (List Int) × Unit)
  | 0, _, _ => none
  | fu + 1, out, t12 => ref_Behinds_b0 nf  pairs  (ref_Behinds_l0 nf pairs  fu) out t12
def ref_Behinds_f (nf : Nat) (n' : Int) (pairs : List (Int × Int × Unit)) : Option (List (List Int) × Unit) := ref_Behinds_p nf (fun p0 v0 v1 => ref_Behinds_l0 nf p0 nf v0 v1) n' pairs
noncomputable def ref_Behinds_L0 (nf : Nat) : LC (List (List Int) × Unit) := theL (findL ref_Behinds_tab (ref_Behinds_phi nf) (fun _ F => iter nf F) ref_Behinds_keep 0 0 (codeOf Try.f26) (fin ref_Behinds_tab [((Ty.int IntKind.i64).sl.sl, Md.own false (Md.bor false false))] (resL (none) Try.f26)) (fun _ _ => none) (fin ref_Behinds_tab [((Ty.int IntKind.i64).sl.sl, Md.own false (Md.bor false false))] (resL (none) Try.f26)))
def ref_Behinds_m0 (pairs : List (Int × Int × Unit)) (out : List (List Int)) (t12 : Int) : St := ⟨fresh, [(1, AV.v ((Ty.int IntKind.i64).pair ((Ty.int IntKind.i64).pair Ty.unit)).sl (Md.bor true false) pairs), (5, AV.ow 500005 (Ty.int IntKind.i64).sl.sl (Md.own false (Md.own true (Md.bor false true))) out), (9, AV.dead), (10, AV.v ((Ty.int IntKind.i64).pair ((Ty.int IntKind.i64).pair Ty.unit)).sl (Md.bor true false) pairs), (11, AV.v (Ty.int IntKind.i64) (Md.bor false true) (↑pairs.length : Int)), (12, AV.v (Ty.int IntKind.i64) (Md.bor false true) t12)]⟩
theorem ref_Behinds_h0 (nf : Nat)  (pairs : List (Int × Int × Unit)) (fu : Nat) (out : List (List Int)) (t12 : Int) : iter (fu + 1) (LC.F ref_Behinds_tab (ref_Behinds_phi nf) (fun _ F => iter nf F) ref_Behinds_keep 0 (ref_Behinds_L0 nf )) (ref_Behinds_m0 pairs out t12) = ref_Behinds_b0 nf  pairs  (fun out t12 => iter fu (LC.F ref_Behinds_tab (ref_Behinds_phi nf) (fun _ F => iter nf F) ref_Behinds_keep 0 (ref_Behinds_L0 nf )) (ref_Behinds_m0 pairs out t12)) out t12 := by kernel_rfl
theorem ref_Behinds_e0 (nf : Nat)  (pairs : List (Int × Int × Unit)) : ∀ (fu : Nat) (out : List (List Int)) (t12 : Int), iter fu (LC.F ref_Behinds_tab (ref_Behinds_phi nf) (fun _ F => iter nf F) ref_Behinds_keep 0 (ref_Behinds_L0 nf )) (ref_Behinds_m0 pairs out t12) = ref_Behinds_l0 nf pairs  fu out t12 := by
  intro fu
  induction fu with
  | zero => intros; rfl
  | succ fu ih =>
    intro out t12
    rw [ref_Behinds_h0 nf  pairs fu out t12]
    simp only [ih]
    rfl
theorem ref_Behinds_eq (nf : Nat) (n' : Int) (pairs : List (Int × Int × Unit)) : runF ref_Behinds_tab (ref_Behinds_phi nf) ref_Behinds_keep nf [PT.val (Ty.int IntKind.i64) (Md.bor true false), PT.val ((Ty.int IntKind.i64).pair ((Ty.int IntKind.i64).pair Ty.unit)).sl (Md.bor true false)] [((Ty.int IntKind.i64).sl.sl, Md.own false (Md.bor false false))] (resL (none) Try.f26) (codeOf Try.f26) ⟨n', pairs, ()⟩ = ref_Behinds_f nf n' pairs := by
  have h : runF ref_Behinds_tab (ref_Behinds_phi nf) ref_Behinds_keep nf [PT.val (Ty.int IntKind.i64) (Md.bor true false), PT.val ((Ty.int IntKind.i64).pair ((Ty.int IntKind.i64).pair Ty.unit)).sl (Md.bor true false)] [((Ty.int IntKind.i64).sl.sl, Md.own false (Md.bor false false))] (resL (none) Try.f26) (codeOf Try.f26) ⟨n', pairs, ()⟩ = ref_Behinds_p nf (fun p0 v0 v1 => iter nf (LC.F ref_Behinds_tab (ref_Behinds_phi nf) (fun _ F => iter nf F) ref_Behinds_keep 0 (ref_Behinds_L0 nf)) (ref_Behinds_m0 p0 v0 v1)) n' pairs := by kernel_rfl
  rw [h]
  simp only [ref_Behinds_e0]
  rfl
def ref_Behinds_F (nf : Nat) (x : denPs [.val (.int .i64) (.bor true false), .val (.sl (.pair (.int .i64) (.pair (.int .i64) (.unit)))) (.bor true false)]) : Option (denL [(.sl (.sl (.int .i64)), .own false (.bor false false))]) := ref_Behinds_f nf x.1 x.2.1
def ref_Behinds_C (nf : Nat) : Contract := ⟨[.val (.int .i64) (.bor true false), .val (.sl (.pair (.int .i64) (.pair (.int .i64) (.unit)))) (.bor true false)], [(.sl (.sl (.int .i64)), .own false (.bor false false))], ref_Behinds_F nf, none⟩
theorem ref_Behinds_ok : FnOK Try.prog 26 := ⟨Try.f26, codeOf Try.f26, Try.func26, by kernel_rfl, by kernel_rfl⟩
theorem ref_Behinds_holds (nf : Nat) : Contract.Holds Try.prog 26 (ref_Behinds_C nf) :=
  fn_holds (Φ := ref_Behinds_phi nf) (keep := ref_Behinds_keep) (n := nf) ⟨ref_Behinds_tabs.1, ref_Behinds_tabs.2, ctx_nil, mixed⟩ (fn := Try.f26) ⟨Try.func26, by kernel_rfl, by kernel_rfl, by kernel_rfl⟩ (fun x => ref_Behinds_eq nf x.1 x.2.1)

/-! codemason codemasonref.Inside -/
def ref_Inside_phi (nf : Nat) : Nat → Option Contract := lookC []
def ref_Inside_keep : Nat → List Nat := lookK [(0, [0, 1, 7, 8, 9])]
def ref_Inside_b0 (nf : Nat) (n' : Int) (l' : List Int) (g0 : Int → Option (Bool × Unit)) (t9 : Int) : Option (Bool × Unit) :=
  bif decide (t9 < (↑l'.length : Int)) then
    bif inb t9 l'.length then
      bif decide (l'.getD t9.toNat 0 < 0) then
        some ((false, ()))
      else
        bif decide (l'.getD t9.toNat 0 ≥ n') then
          some ((false, ()))
        else
          g0 (IntKind.i64.wrap (t9 + 1))
    else
      none
  else
    some ((true, ()))
def ref_Inside_p (nf : Nat) (l0 : Int → List Int → Int → Option (Bool × Unit)) (n' : Int) (l' : List Int) : Option (Bool × Unit) :=
  l0 n' l' 0
def ref_Inside_l0 (nf : Nat) (n' : Int) (l' : List Int) : Nat → Int → Option (Bool × Unit)
  | 0, _ => none
  | fu + 1, t9 => ref_Inside_b0 nf  n' l'  (ref_Inside_l0 nf n' l'  fu) t9
def ref_Inside_f (nf : Nat) (n' : Int) (l' : List Int) : Option (Bool × Unit) := ref_Inside_p nf (fun p0 p1 v0 => ref_Inside_l0 nf p0 p1 nf v0) n' l'
noncomputable def ref_Inside_L0 (nf : Nat) : LC (Bool × Unit) := theL (findL tab (ref_Inside_phi nf) (fun _ F => iter nf F) ref_Inside_keep 0 0 (codeOf Try.f39) (fin tab [(Ty.bool, Md.bor false true)] (resL (none) Try.f39)) (fun _ _ => none) (fin tab [(Ty.bool, Md.bor false true)] (resL (none) Try.f39)))
def ref_Inside_m0 (n' : Int) (l' : List Int) (t9 : Int) : St := ⟨fresh, [(0, AV.v (Ty.int IntKind.i64) (Md.bor false true) n'), (1, AV.v (Ty.int IntKind.i64).sl (Md.bor true false) l'), (7, AV.v (Ty.int IntKind.i64).sl (Md.bor true false) l'), (8, AV.v (Ty.int IntKind.i64) (Md.bor false true) (↑l'.length : Int)), (9, AV.v (Ty.int IntKind.i64) (Md.bor false true) t9)]⟩
theorem ref_Inside_h0 (nf : Nat)  (n' : Int) (l' : List Int) (fu : Nat) (t9 : Int) : iter (fu + 1) (LC.F tab (ref_Inside_phi nf) (fun _ F => iter nf F) ref_Inside_keep 0 (ref_Inside_L0 nf )) (ref_Inside_m0 n' l' t9) = ref_Inside_b0 nf  n' l'  (fun t9 => iter fu (LC.F tab (ref_Inside_phi nf) (fun _ F => iter nf F) ref_Inside_keep 0 (ref_Inside_L0 nf )) (ref_Inside_m0 n' l' t9)) t9 := by kernel_rfl
theorem ref_Inside_e0 (nf : Nat)  (n' : Int) (l' : List Int) : ∀ (fu : Nat) (t9 : Int), iter fu (LC.F tab (ref_Inside_phi nf) (fun _ F => iter nf F) ref_Inside_keep 0 (ref_Inside_L0 nf )) (ref_Inside_m0 n' l' t9) = ref_Inside_l0 nf n' l'  fu t9 := by
  intro fu
  induction fu with
  | zero => intros; rfl
  | succ fu ih =>
    intro t9
    rw [ref_Inside_h0 nf  n' l' fu t9]
    simp only [ih]
    rfl
theorem ref_Inside_eq (nf : Nat) (n' : Int) (l' : List Int) : runF tab (ref_Inside_phi nf) ref_Inside_keep nf [PT.val (Ty.int IntKind.i64) (Md.bor true false), PT.val (Ty.int IntKind.i64).sl (Md.bor true false)] [(Ty.bool, Md.bor false true)] (resL (none) Try.f39) (codeOf Try.f39) ⟨n', l', ()⟩ = ref_Inside_f nf n' l' := by
  have h : runF tab (ref_Inside_phi nf) ref_Inside_keep nf [PT.val (Ty.int IntKind.i64) (Md.bor true false), PT.val (Ty.int IntKind.i64).sl (Md.bor true false)] [(Ty.bool, Md.bor false true)] (resL (none) Try.f39) (codeOf Try.f39) ⟨n', l', ()⟩ = ref_Inside_p nf (fun p0 p1 v0 => iter nf (LC.F tab (ref_Inside_phi nf) (fun _ F => iter nf F) ref_Inside_keep 0 (ref_Inside_L0 nf)) (ref_Inside_m0 p0 p1 v0)) n' l' := by kernel_rfl
  rw [h]
  simp only [ref_Inside_e0]
  rfl
def ref_Inside_F (nf : Nat) (x : denPs [.val (.int .i64) (.bor true false), .val (.sl (.int .i64)) (.bor true false)]) : Option (denL [(.bool, .bor false true)]) := ref_Inside_f nf x.1 x.2.1
def ref_Inside_C (nf : Nat) : Contract := ⟨[.val (.int .i64) (.bor true false), .val (.sl (.int .i64)) (.bor true false)], [(.bool, .bor false true)], ref_Inside_F nf, none⟩
theorem ref_Inside_ok : FnOK Try.prog 39 := ⟨Try.f39, codeOf Try.f39, Try.func39, by kernel_rfl, by kernel_rfl⟩
theorem ref_Inside_holds (nf : Nat) : Contract.Holds Try.prog 39 (ref_Inside_C nf) :=
  fn_holds (Φ := ref_Inside_phi nf) (keep := ref_Inside_keep) (n := nf) ⟨tabs.1, tabs.2, ctx_nil, mixed⟩ (fn := Try.f39) ⟨Try.func39, by kernel_rfl, by kernel_rfl, by kernel_rfl⟩ (fun x => ref_Inside_eq nf x.1 x.2.1)

/-! codemason codemasonref.Reach -/
def ref_Reach_phi (nf : Nat) : Nat → Option Contract := lookC [(21, ref_Has_C nf)]
def ref_Reach_keep : Nat → List Nat := lookK [(2, [0, 2, 7, 8, 15, 22, 27, 28, 29, 30, 46]), (0, [0, 2, 7, 8, 15, 46])]
def ref_Reach_b0 (nf : Nat) (l2 : List (List Int) → Int → Int → List Int → List Int → Int → Option (List Int × Unit)) (next : List (List Int)) (without : Int) (g0 : List Int → Int → Option (List Int × Unit)) (here : List Int) (k' : Int) : Option (List Int × Unit) :=
  bif decide (k' < (↑here.length : Int)) then
    bif inb k' here.length then
      bif inb (here.getD k'.toNat 0) next.length then
        l2 next without k' here here 0
      else
        none
    else
      none
  else
    some ((here, ()))
def ref_Reach_b2 (nf : Nat) (next : List (List Int)) (without : Int) (k' : Int) (here : List Int) (g0 : List Int → Int → Option (List Int × Unit)) (g2 : List Int → Int → Option (List Int × Unit)) (here2 : List Int) (t30 : Int) : Option (List Int × Unit) :=
  bif decide (t30 < (↑(List.length (next.getD (Int.toNat (here.getD k'.toNat 0)) [])) : Int)) then
    bif inb t30 (List.length (next.getD (Int.toNat (here.getD k'.toNat 0)) [])) then
      bif List.getD (next.getD (Int.toNat (here.getD k'.toNat 0)) []) t30.toNat 0 != without then
        Option.bind (ref_Has_f nf here2 (List.getD (next.getD (Int.toNat (here.getD k'.toNat 0)) []) t30.toNat 0)) fun r =>
        bif !r.fst then
          bif bimp false ![List.getD (next.getD (Int.toNat (here.getD k'.toNat 0)) []) t30.toNat 0].isEmpty && (here2.length + [List.getD (next.getD (Int.toNat (here.getD k'.toNat 0)) []) t30.toNat 0].length).ble lim then
            g2 (here2 ++ [List.getD (next.getD (Int.toNat (here.getD k'.toNat 0)) []) t30.toNat 0]) (IntKind.i64.wrap (t30 + 1))
          else
            none
        else
          g2 here2 (IntKind.i64.wrap (t30 + 1))
      else
        g2 here2 (IntKind.i64.wrap (t30 + 1))
    else
      none
  else
    g0 here2 (IntKind.i64.wrap (k' + 1))
def ref_Reach_p (nf : Nat) (l0 : List (List Int) → Int → List Int → Int → Option (List Int × Unit)) (next : List (List Int)) (i : Int) (without : Int) : Option (List Int × Unit) :=
  bif i == without then
    some (([], ()))
  else
    l0 next without [i] 0
def ref_Reach_l2 (nf : Nat) (next : List (List Int)) (without : Int) (k' : Int) (here : List Int) (g0 : List Int → Int → Option (List Int × Unit)) : Nat → List Int → Int → Option (List Int × Unit)
  | 0, _, _ => none
  | fu + 1, here2, t30 => ref_Reach_b2 nf  next without k' here g0 (ref_Reach_l2 nf next without k' here g0 fu) here2 t30
def ref_Reach_l0 (nf : Nat) (next : List (List Int)) (without : Int) : Nat → List Int → Int → Option (List Int × Unit)
  | 0, _, _ => none
  | fu + 1, here, k' => ref_Reach_b0 nf (fun _ _ p2 p3 v0 v1 => ref_Reach_l2 nf next without p2 p3 (fun here k' => ref_Reach_l0 nf next without  fu here k') nf v0 v1) next without  (ref_Reach_l0 nf next without  fu) here k'
def ref_Reach_f (nf : Nat) (next : List (List Int)) (i : Int) (without : Int) : Option (List Int × Unit) := ref_Reach_p nf (fun p0 p1 v0 v1 => ref_Reach_l0 nf p0 p1 nf v0 v1) next i without
noncomputable def ref_Reach_L0 (nf : Nat) : LC (List Int × Unit) := theL (findL tab (ref_Reach_phi nf) (fun _ F => iter nf F) ref_Reach_keep 0 0 (codeOf Try.f42) (fin tab [((Ty.int IntKind.i64).sl, Md.own false (Md.bor false false))] (resL (none) Try.f42)) (fun _ _ => none) (fin tab [((Ty.int IntKind.i64).sl, Md.own false (Md.bor false false))] (resL (none) Try.f42)))
def ref_Reach_m0 (next : List (List Int)) (without : Int) (here : List Int) (k' : Int) : St := ⟨fresh, [(0, AV.v (Ty.int IntKind.i64).sl.sl (Md.bor true false) next), (2, AV.v (Ty.int IntKind.i64) (Md.bor false true) without), (7, AV.ow 500007 (Ty.int IntKind.i64).sl (Md.own false (Md.bor false false)) here), (8, AV.v (Ty.int IntKind.i64) (Md.bor false true) k'), (15, AV.dead), (46, AV.dead)]⟩
noncomputable def ref_Reach_L2 (nf : Nat) (G0 : St → Option (List Int × Unit)) : LC (List Int × Unit) := theL (findL tab (ref_Reach_phi nf) (fun _ F => iter nf F) ref_Reach_keep 2 0 (ref_Reach_L0 nf ).c (fun st => norm (ref_Reach_keep 0) st G0) (ref_Reach_L0 nf ).Kx (ref_Reach_L0 nf ).Kr)
def ref_Reach_m2 (next : List (List Int)) (without : Int) (k' : Int) (here : List Int) (here2 : List Int) (t30 : Int) : St := ⟨fresh, [(0, AV.v (Ty.int IntKind.i64).sl.sl (Md.bor true false) next), (2, AV.v (Ty.int IntKind.i64) (Md.bor false true) without), (7, AV.ow 500007 (Ty.int IntKind.i64).sl (Md.own false (Md.bor false false)) here2), (8, AV.v (Ty.int IntKind.i64) (Md.bor false true) k'), (15, AV.dead), (22, AV.v (Ty.int IntKind.i64).sl.sl (Md.bor true false) next), (27, AV.rop (Ty.int IntKind.i64).sl (Md.bor true false) (next.getD (Int.toNat (here.getD k'.toNat 0)) [])), (28, AV.v (Ty.int IntKind.i64).sl (Md.bor true false) (next.getD (Int.toNat (here.getD k'.toNat 0)) [])), (29, AV.v (Ty.int IntKind.i64) (Md.bor false true) (↑(List.length (next.getD (Int.toNat (here.getD k'.toNat 0)) [])) : Int)), (30, AV.v (Ty.int IntKind.i64) (Md.bor false true) t30), (46, AV.dead)]⟩
theorem ref_Reach_h2 (nf : Nat) (G0 : St → Option (List Int × Unit)) (next : List (List Int)) (without : Int) (k' : Int) (here : List Int) (fu : Nat) (here2 : List Int) (t30 : Int) : iter (fu + 1) (LC.F tab (ref_Reach_phi nf) (fun _ F => iter nf F) ref_Reach_keep 2 (ref_Reach_L2 nf G0)) (ref_Reach_m2 next without k' here here2 t30) = ref_Reach_b2 nf  next without k' here (fun here k' => G0 (ref_Reach_m0 next without here k')) (fun here2 t30 => iter fu (LC.F tab (ref_Reach_phi nf) (fun _ F => iter nf F) ref_Reach_keep 2 (ref_Reach_L2 nf G0)) (ref_Reach_m2 next without k' here here2 t30)) here2 t30 := by kernel_rfl
theorem ref_Reach_e2 (nf : Nat) (G0 : St → Option (List Int × Unit)) (next : List (List Int)) (without : Int) (k' : Int) (here : List Int) : ∀ (fu : Nat) (here2 : List Int) (t30 : Int), iter fu (LC.F tab (ref_Reach_phi nf) (fun _ F => iter nf F) ref_Reach_keep 2 (ref_Reach_L2 nf G0)) (ref_Reach_m2 next without k' here here2 t30) = ref_Reach_l2 nf next without k' here (fun here k' => G0 (ref_Reach_m0 next without here k')) fu here2 t30 := by
  intro fu
  induction fu with
  | zero => intros; rfl
  | succ fu ih =>
    intro here2 t30
    rw [ref_Reach_h2 nf G0 next without k' here fu here2 t30]
    simp only [ih]
    rfl
theorem ref_Reach_h0 (nf : Nat)  (next : List (List Int)) (without : Int) (fu : Nat) (here : List Int) (k' : Int) : iter (fu + 1) (LC.F tab (ref_Reach_phi nf) (fun _ F => iter nf F) ref_Reach_keep 0 (ref_Reach_L0 nf )) (ref_Reach_m0 next without here k') = ref_Reach_b0 nf (fun _ _ p2 p3 v0 v1 => iter nf (LC.F tab (ref_Reach_phi nf) (fun _ F => iter nf F) ref_Reach_keep 2 (ref_Reach_L2 nf (iter fu (LC.F tab (ref_Reach_phi nf) (fun _ F => iter nf F) ref_Reach_keep 0 (ref_Reach_L0 nf ))))) (ref_Reach_m2 next without p2 p3 v0 v1)) next without  (fun here k' => iter fu (LC.F tab (ref_Reach_phi nf) (fun _ F => iter nf F) ref_Reach_keep 0 (ref_Reach_L0 nf )) (ref_Reach_m0 next without here k')) here k' := by kernel_rfl
theorem ref_Reach_e0 (nf : Nat)  (next : List (List Int)) (without : Int) : ∀ (fu : Nat) (here : List Int) (k' : Int), iter fu (LC.F tab (ref_Reach_phi nf) (fun _ F => iter nf F) ref_Reach_keep 0 (ref_Reach_L0 nf )) (ref_Reach_m0 next without here k') = ref_Reach_l0 nf next without  fu here k' := by
  intro fu
  induction fu with
  | zero => intros; rfl
  | succ fu ih =>
    intro here k'
    rw [ref_Reach_h0 nf  next without fu here k']
    simp only [ih, ref_Reach_e2]
    rfl
theorem ref_Reach_eq (nf : Nat) (next : List (List Int)) (i : Int) (without : Int) : runF tab (ref_Reach_phi nf) ref_Reach_keep nf [PT.val (Ty.int IntKind.i64).sl.sl (Md.bor true false), PT.val (Ty.int IntKind.i64) (Md.bor true false), PT.val (Ty.int IntKind.i64) (Md.bor true false)] [((Ty.int IntKind.i64).sl, Md.own false (Md.bor false false))] (resL (none) Try.f42) (codeOf Try.f42) ⟨next, i, without, ()⟩ = ref_Reach_f nf next i without := by
  have h : runF tab (ref_Reach_phi nf) ref_Reach_keep nf [PT.val (Ty.int IntKind.i64).sl.sl (Md.bor true false), PT.val (Ty.int IntKind.i64) (Md.bor true false), PT.val (Ty.int IntKind.i64) (Md.bor true false)] [((Ty.int IntKind.i64).sl, Md.own false (Md.bor false false))] (resL (none) Try.f42) (codeOf Try.f42) ⟨next, i, without, ()⟩ = ref_Reach_p nf (fun p0 p1 v0 v1 => iter nf (LC.F tab (ref_Reach_phi nf) (fun _ F => iter nf F) ref_Reach_keep 0 (ref_Reach_L0 nf)) (ref_Reach_m0 p0 p1 v0 v1)) next i without := by kernel_rfl
  rw [h]
  simp only [ref_Reach_e0]
  rfl
def ref_Reach_F (nf : Nat) (x : denPs [.val (.sl (.sl (.int .i64))) (.bor true false), .val (.int .i64) (.bor true false), .val (.int .i64) (.bor true false)]) : Option (denL [(.sl (.int .i64), .own false (.bor false false))]) := ref_Reach_f nf x.1 x.2.1 x.2.2.1
def ref_Reach_C (nf : Nat) : Contract := ⟨[.val (.sl (.sl (.int .i64))) (.bor true false), .val (.int .i64) (.bor true false), .val (.int .i64) (.bor true false)], [(.sl (.int .i64), .own false (.bor false false))], ref_Reach_F nf, none⟩
theorem ref_Reach_ok : FnOK Try.prog 42 := ⟨Try.f42, codeOf Try.f42, Try.func42, by kernel_rfl, by kernel_rfl⟩
theorem ref_Reach_holds (nf : Nat) : Contract.Holds Try.prog 42 (ref_Reach_C nf) :=
  fn_holds (Φ := ref_Reach_phi nf) (keep := ref_Reach_keep) (n := nf) ⟨tabs.1, tabs.2, (ctx_cons ref_Has_ok (ref_Has_holds nf) ctx_nil), mixed⟩ (fn := Try.f42) ⟨Try.func42, by kernel_rfl, by kernel_rfl, by kernel_rfl⟩ (fun x => ref_Reach_eq nf x.1 x.2.1 x.2.2.1)

/-! codemason codemasonref.TasksCheck -/
def ref_TasksCheck_phi (nf : Nat) : Nat → Option Contract := lookC [(21, ref_Has_C nf), (26, ref_Behinds_C nf), (39, ref_Inside_C nf), (42, ref_Reach_C nf)]
def ref_TasksCheck_keep : Nat → List Nat := lookK [(4, [0, 7, 8, 39, 45, 47, 48, 49, 50]), (2, [0, 7, 8, 39]), (0, [0, 1, 22, 23, 24])]
def ref_TasksCheck_b0 (nf : Nat) (l2 : Int → List (List Int) → Int → Option (Int × Unit)) (n' : Int) (pairs : List (Int × Int × Unit)) (g0 : Int → Option (Int × Unit)) (t24 : Int) : Option (Int × Unit) :=
  bif decide (t24 < (↑pairs.length : Int)) then
    bif inb t24 pairs.length then
      Option.bind (ref_Inside_f nf n' ([(pairs.getD t24.toNat (0, 0, ())).fst, (pairs.getD t24.toNat (0, 0, ())).snd.fst])) fun r =>
      bif !r.fst then
        some ((2, ()))
      else
        g0 (IntKind.i64.wrap (t24 + 1))
    else
      none
  else
    Option.bind (ref_Behinds_f nf n' pairs) fun r2 =>
    l2 n' r2.fst 0
def ref_TasksCheck_b2 (nf : Nat) (l4 : Int → Int → List (List Int) → List (List Int) → Int → Option (Int × Unit)) (n' : Int) (g2 : List (List Int) → Int → Option (Int × Unit)) (next : List (List Int)) (i : Int) : Option (Int × Unit) :=
  bif decide (i < n') then
    bif inb i next.length then
      l4 n' i next next 0
    else
      none
  else
    some ((0, ()))
def ref_TasksCheck_b4 (nf : Nat) (n' : Int) (i : Int) (next : List (List Int)) (g2 : List (List Int) → Int → Option (Int × Unit)) (g4 : List (List Int) → Int → Option (Int × Unit)) (next2 : List (List Int)) (t50 : Int) : Option (Int × Unit) :=
  bif decide (t50 < (↑(List.length (next.getD i.toNat [])) : Int)) then
    bif inb t50 (List.length (next.getD i.toNat [])) then
      Option.bind (ref_Reach_f nf next2 (List.getD (next.getD i.toNat []) t50.toNat 0) (-1)) fun r3 =>
      Option.bind (ref_Has_f nf r3.fst i) fun r4 =>
      bif r4.fst then
        some ((3, ()))
      else
        g4 next2 (IntKind.i64.wrap (t50 + 1))
    else
      none
  else
    g2 next2 (IntKind.i64.wrap (i + 1))
def ref_TasksCheck_p (nf : Nat) (l0 : Int → List (Int × Int × Unit) → Int → Option (Int × Unit)) (n' : Int) (pairs : List (Int × Int × Unit)) : Option (Int × Unit) :=
  bif decide (n' < 1) then
    some ((1, ()))
  else
    bif decide (n' > 8) then
      some ((1, ()))
    else
      bif decide ((↑pairs.length : Int) > 28) then
        some ((1, ()))
      else
        l0 n' pairs 0
def ref_TasksCheck_l4 (nf : Nat) (n' : Int) (i : Int) (next : List (List Int)) (g2 : List (List Int) → Int → Option (Int × Unit)) : Nat → List (List Int) → Int → Option (Int × Unit)
  | 0, _, _ => none
  | fu + 1, next2, t50 => ref_TasksCheck_b4 nf  n' i next g2 (ref_TasksCheck_l4 nf n' i next g2 fu) next2 t50
def ref_TasksCheck_l2 (nf : Nat) (n' : Int) : Nat → List (List Int) → Int → Option (Int × Unit)
  | 0, _, _ => none
  | fu + 1, next, i => ref_TasksCheck_b2 nf (fun _ p1 p2 v0 v1 => ref_TasksCheck_l4 nf n' p1 p2 (fun next i => ref_TasksCheck_l2 nf n'  fu next i) nf v0 v1) n'  (ref_TasksCheck_l2 nf n'  fu) next i
def ref_TasksCheck_l0 (nf : Nat) (n' : Int) (pairs : List (Int × Int × Unit)) : Nat → Int → Option (Int × Unit)
  | 0, _ => none
  | fu + 1, t24 => ref_TasksCheck_b0 nf (fun _ v0 v1 => ref_TasksCheck_l2 nf n'  nf v0 v1) n' pairs  (ref_TasksCheck_l0 nf n' pairs  fu) t24
def ref_TasksCheck_f (nf : Nat) (n' : Int) (pairs : List (Int × Int × Unit)) : Option (Int × Unit) := ref_TasksCheck_p nf (fun p0 p1 v0 => ref_TasksCheck_l0 nf p0 p1 nf v0) n' pairs
noncomputable def ref_TasksCheck_L0 (nf : Nat) : LC (Int × Unit) := theL (findL tab (ref_TasksCheck_phi nf) (fun _ F => iter nf F) ref_TasksCheck_keep 0 0 (codeOf Try.f24) (fin tab [(Ty.int IntKind.i64, Md.bor false true)] (resL (none) Try.f24)) (fun _ _ => none) (fin tab [(Ty.int IntKind.i64, Md.bor false true)] (resL (none) Try.f24)))
def ref_TasksCheck_m0 (n' : Int) (pairs : List (Int × Int × Unit)) (t24 : Int) : St := ⟨fresh, [(0, AV.v (Ty.int IntKind.i64) (Md.bor false true) n'), (1, AV.v ((Ty.int IntKind.i64).pair ((Ty.int IntKind.i64).pair Ty.unit)).sl (Md.bor true false) pairs), (22, AV.v ((Ty.int IntKind.i64).pair ((Ty.int IntKind.i64).pair Ty.unit)).sl (Md.bor true false) pairs), (23, AV.v (Ty.int IntKind.i64) (Md.bor false true) (↑pairs.length : Int)), (24, AV.v (Ty.int IntKind.i64) (Md.bor false true) t24)]⟩
noncomputable def ref_TasksCheck_L2 (nf : Nat) : LC (Int × Unit) := theL (findL tab (ref_TasksCheck_phi nf) (fun _ F => iter nf F) ref_TasksCheck_keep 2 0 (codeOf Try.f24) (fin tab [(Ty.int IntKind.i64, Md.bor false true)] (resL (none) Try.f24)) (fun _ _ => none) (fin tab [(Ty.int IntKind.i64, Md.bor false true)] (resL (none) Try.f24)))
def ref_TasksCheck_m2 (n' : Int) (next : List (List Int)) (i : Int) : St := ⟨fresh, [(0, AV.v (Ty.int IntKind.i64) (Md.bor false true) n'), (7, AV.ow 500007 (Ty.int IntKind.i64).sl.sl (Md.own false (Md.bor false false)) next), (8, AV.v (Ty.int IntKind.i64) (Md.bor false true) i), (39, AV.dead)]⟩
noncomputable def ref_TasksCheck_L4 (nf : Nat) (G2 : St → Option (Int × Unit)) : LC (Int × Unit) := theL (findL tab (ref_TasksCheck_phi nf) (fun _ F => iter nf F) ref_TasksCheck_keep 4 2 (ref_TasksCheck_L2 nf ).c (fun st => norm (ref_TasksCheck_keep 2) st G2) (ref_TasksCheck_L2 nf ).Kx (ref_TasksCheck_L2 nf ).Kr)
def ref_TasksCheck_m4 (n' : Int) (i : Int) (next : List (List Int)) (next2 : List (List Int)) (t50 : Int) : St := ⟨fresh, [(0, AV.v (Ty.int IntKind.i64) (Md.bor false true) n'), (7, AV.ow 500007 (Ty.int IntKind.i64).sl.sl (Md.own false (Md.bor false false)) next2), (8, AV.v (Ty.int IntKind.i64) (Md.bor false true) i), (39, AV.dead), (45, AV.al 7 500007 []), (47, AV.pl 7 500007 [Stp.el i.toNat]), (48, AV.v (Ty.int IntKind.i64).sl (Md.bor false false) (next.getD i.toNat [])), (49, AV.v (Ty.int IntKind.i64) (Md.bor false true) (↑(List.length (next.getD i.toNat [])) : Int)), (50, AV.v (Ty.int IntKind.i64) (Md.bor false true) t50)]⟩
theorem ref_TasksCheck_h4 (nf : Nat) (G2 : St → Option (Int × Unit)) (n' : Int) (i : Int) (next : List (List Int)) (fu : Nat) (next2 : List (List Int)) (t50 : Int) : iter (fu + 1) (LC.F tab (ref_TasksCheck_phi nf) (fun _ F => iter nf F) ref_TasksCheck_keep 4 (ref_TasksCheck_L4 nf G2)) (ref_TasksCheck_m4 n' i next next2 t50) = ref_TasksCheck_b4 nf  n' i next (fun next i => G2 (ref_TasksCheck_m2 n' next i)) (fun next2 t50 => iter fu (LC.F tab (ref_TasksCheck_phi nf) (fun _ F => iter nf F) ref_TasksCheck_keep 4 (ref_TasksCheck_L4 nf G2)) (ref_TasksCheck_m4 n' i next next2 t50)) next2 t50 := by kernel_rfl
theorem ref_TasksCheck_e4 (nf : Nat) (G2 : St → Option (Int × Unit)) (n' : Int) (i : Int) (next : List (List Int)) : ∀ (fu : Nat) (next2 : List (List Int)) (t50 : Int), iter fu (LC.F tab (ref_TasksCheck_phi nf) (fun _ F => iter nf F) ref_TasksCheck_keep 4 (ref_TasksCheck_L4 nf G2)) (ref_TasksCheck_m4 n' i next next2 t50) = ref_TasksCheck_l4 nf n' i next (fun next i => G2 (ref_TasksCheck_m2 n' next i)) fu next2 t50 := by
  intro fu
  induction fu with
  | zero => intros; rfl
  | succ fu ih =>
    intro next2 t50
    rw [ref_TasksCheck_h4 nf G2 n' i next fu next2 t50]
    simp only [ih]
    rfl
theorem ref_TasksCheck_h2 (nf : Nat)  (n' : Int) (fu : Nat) (next : List (List Int)) (i : Int) : iter (fu + 1) (LC.F tab (ref_TasksCheck_phi nf) (fun _ F => iter nf F) ref_TasksCheck_keep 2 (ref_TasksCheck_L2 nf )) (ref_TasksCheck_m2 n' next i) = ref_TasksCheck_b2 nf (fun _ p1 p2 v0 v1 => iter nf (LC.F tab (ref_TasksCheck_phi nf) (fun _ F => iter nf F) ref_TasksCheck_keep 4 (ref_TasksCheck_L4 nf (iter fu (LC.F tab (ref_TasksCheck_phi nf) (fun _ F => iter nf F) ref_TasksCheck_keep 2 (ref_TasksCheck_L2 nf ))))) (ref_TasksCheck_m4 n' p1 p2 v0 v1)) n'  (fun next i => iter fu (LC.F tab (ref_TasksCheck_phi nf) (fun _ F => iter nf F) ref_TasksCheck_keep 2 (ref_TasksCheck_L2 nf )) (ref_TasksCheck_m2 n' next i)) next i := by kernel_rfl
theorem ref_TasksCheck_e2 (nf : Nat)  (n' : Int) : ∀ (fu : Nat) (next : List (List Int)) (i : Int), iter fu (LC.F tab (ref_TasksCheck_phi nf) (fun _ F => iter nf F) ref_TasksCheck_keep 2 (ref_TasksCheck_L2 nf )) (ref_TasksCheck_m2 n' next i) = ref_TasksCheck_l2 nf n'  fu next i := by
  intro fu
  induction fu with
  | zero => intros; rfl
  | succ fu ih =>
    intro next i
    rw [ref_TasksCheck_h2 nf  n' fu next i]
    simp only [ih, ref_TasksCheck_e4]
    rfl
theorem ref_TasksCheck_h0 (nf : Nat)  (n' : Int) (pairs : List (Int × Int × Unit)) (fu : Nat) (t24 : Int) : iter (fu + 1) (LC.F tab (ref_TasksCheck_phi nf) (fun _ F => iter nf F) ref_TasksCheck_keep 0 (ref_TasksCheck_L0 nf )) (ref_TasksCheck_m0 n' pairs t24) = ref_TasksCheck_b0 nf (fun _ v0 v1 => iter nf (LC.F tab (ref_TasksCheck_phi nf) (fun _ F => iter nf F) ref_TasksCheck_keep 2 (ref_TasksCheck_L2 nf )) (ref_TasksCheck_m2 n' v0 v1)) n' pairs  (fun t24 => iter fu (LC.F tab (ref_TasksCheck_phi nf) (fun _ F => iter nf F) ref_TasksCheck_keep 0 (ref_TasksCheck_L0 nf )) (ref_TasksCheck_m0 n' pairs t24)) t24 := by kernel_rfl
theorem ref_TasksCheck_e0 (nf : Nat)  (n' : Int) (pairs : List (Int × Int × Unit)) : ∀ (fu : Nat) (t24 : Int), iter fu (LC.F tab (ref_TasksCheck_phi nf) (fun _ F => iter nf F) ref_TasksCheck_keep 0 (ref_TasksCheck_L0 nf )) (ref_TasksCheck_m0 n' pairs t24) = ref_TasksCheck_l0 nf n' pairs  fu t24 := by
  intro fu
  induction fu with
  | zero => intros; rfl
  | succ fu ih =>
    intro t24
    rw [ref_TasksCheck_h0 nf  n' pairs fu t24]
    simp only [ih, ref_TasksCheck_e2]
    rfl
theorem ref_TasksCheck_eq (nf : Nat) (n' : Int) (pairs : List (Int × Int × Unit)) : runF tab (ref_TasksCheck_phi nf) ref_TasksCheck_keep nf [PT.val (Ty.int IntKind.i64) (Md.bor true false), PT.val ((Ty.int IntKind.i64).pair ((Ty.int IntKind.i64).pair Ty.unit)).sl (Md.bor true false)] [(Ty.int IntKind.i64, Md.bor false true)] (resL (none) Try.f24) (codeOf Try.f24) ⟨n', pairs, ()⟩ = ref_TasksCheck_f nf n' pairs := by
  have h : runF tab (ref_TasksCheck_phi nf) ref_TasksCheck_keep nf [PT.val (Ty.int IntKind.i64) (Md.bor true false), PT.val ((Ty.int IntKind.i64).pair ((Ty.int IntKind.i64).pair Ty.unit)).sl (Md.bor true false)] [(Ty.int IntKind.i64, Md.bor false true)] (resL (none) Try.f24) (codeOf Try.f24) ⟨n', pairs, ()⟩ = ref_TasksCheck_p nf (fun p0 p1 v0 => iter nf (LC.F tab (ref_TasksCheck_phi nf) (fun _ F => iter nf F) ref_TasksCheck_keep 0 (ref_TasksCheck_L0 nf)) (ref_TasksCheck_m0 p0 p1 v0)) n' pairs := by kernel_rfl
  rw [h]
  simp only [ref_TasksCheck_e0]
  rfl
def ref_TasksCheck_F (nf : Nat) (x : denPs [.val (.int .i64) (.bor true false), .val (.sl (.pair (.int .i64) (.pair (.int .i64) (.unit)))) (.bor true false)]) : Option (denL [(.int .i64, .bor false true)]) := ref_TasksCheck_f nf x.1 x.2.1
def ref_TasksCheck_C (nf : Nat) : Contract := ⟨[.val (.int .i64) (.bor true false), .val (.sl (.pair (.int .i64) (.pair (.int .i64) (.unit)))) (.bor true false)], [(.int .i64, .bor false true)], ref_TasksCheck_F nf, none⟩
theorem ref_TasksCheck_ok : FnOK Try.prog 24 := ⟨Try.f24, codeOf Try.f24, Try.func24, by kernel_rfl, by kernel_rfl⟩
theorem ref_TasksCheck_holds (nf : Nat) : Contract.Holds Try.prog 24 (ref_TasksCheck_C nf) :=
  fn_holds (Φ := ref_TasksCheck_phi nf) (keep := ref_TasksCheck_keep) (n := nf) ⟨tabs.1, tabs.2, (ctx_cons ref_Has_ok (ref_Has_holds nf) (ctx_cons ref_Behinds_ok (ref_Behinds_holds nf) (ctx_cons ref_Inside_ok (ref_Inside_holds nf) (ctx_cons ref_Reach_ok (ref_Reach_holds nf) ctx_nil)))), mixed⟩ (fn := Try.f24) ⟨Try.func24, by kernel_rfl, by kernel_rfl, by kernel_rfl⟩ (fun x => ref_TasksCheck_eq nf x.1 x.2.1)

/-! codemason codemasonref.Level -/
def ref_Level_phi (nf : Nat) (self : denPs [.val (.sl (.sl (.int .i64))) (.bor true false), .val (.int .i64) (.bor true false)] → Option (denL [(.int .i64, .bor false true)])) : Nat → Option Contract := lookC [(25, ⟨[.val (.sl (.sl (.int .i64))) (.bor true false), .val (.int .i64) (.bor true false)], [(.int .i64, .bor false true)], self, none⟩)]
def ref_Level_keep : Nat → List Nat := lookK [(0, [0, 5, 9, 11, 12, 13, 14])]
def ref_Level_b0 (nf : Nat) (self : denPs [.val (.sl (.sl (.int .i64))) (.bor true false), .val (.int .i64) (.bor true false)] → Option (denL [(.int .i64, .bor false true)])) (next : List (List Int)) (i : Int) (g0 : Int → Int → Option (Int × Unit)) (most : Int) (t14 : Int) : Option (Int × Unit) :=
  bif decide (t14 < (↑(List.length (next.getD i.toNat [])) : Int)) then
    bif inb t14 (List.length (next.getD i.toNat [])) then
      Option.bind (self (next, List.getD (next.getD i.toNat []) t14.toNat 0, ())) fun r =>
      bif decide (r.fst > most) then
        g0 r.fst (IntKind.i64.wrap (t14 + 1))
      else
        g0 most (IntKind.i64.wrap (t14 + 1))
    else
      none
  else
    some ((IntKind.i64.wrap (most + 1), ()))
def ref_Level_p (nf : Nat) (self : denPs [.val (.sl (.sl (.int .i64))) (.bor true false), .val (.int .i64) (.bor true false)] → Option (denL [(.int .i64, .bor false true)])) (l0 : List (List Int) → Int → Int → Int → Option (Int × Unit)) (next : List (List Int)) (i : Int) : Option (Int × Unit) :=
  bif inb i next.length then
    l0 next i 0 0
  else
    none
def ref_Level_l0 (nf : Nat) (self : denPs [.val (.sl (.sl (.int .i64))) (.bor true false), .val (.int .i64) (.bor true false)] → Option (denL [(.int .i64, .bor false true)])) (next : List (List Int)) (i : Int) : Nat → Int → Int → Option (Int × Unit)
  | 0, _, _ => none
  | fu + 1, most, t14 => ref_Level_b0 nf self  next i  (ref_Level_l0 nf self next i  fu) most t14
def ref_Level_f (nf : Nat) (self : denPs [.val (.sl (.sl (.int .i64))) (.bor true false), .val (.int .i64) (.bor true false)] → Option (denL [(.int .i64, .bor false true)])) (next : List (List Int)) (i : Int) : Option (Int × Unit) := ref_Level_p nf self (fun p0 p1 v0 v1 => ref_Level_l0 nf self p0 p1 nf v0 v1) next i
noncomputable def ref_Level_L0 (nf : Nat) (self : denPs [.val (.sl (.sl (.int .i64))) (.bor true false), .val (.int .i64) (.bor true false)] → Option (denL [(.int .i64, .bor false true)])) : LC (Int × Unit) := theL (findL tab (ref_Level_phi nf self) (fun _ F => iter nf F) ref_Level_keep 0 0 (codeOf Try.f25) (fin tab [(Ty.int IntKind.i64, Md.bor false true)] (resL (none) Try.f25)) (fun _ _ => none) (fin tab [(Ty.int IntKind.i64, Md.bor false true)] (resL (none) Try.f25)))
def ref_Level_m0 (next : List (List Int)) (i : Int) (most : Int) (t14 : Int) : St := ⟨fresh, [(0, AV.v (Ty.int IntKind.i64).sl.sl (Md.bor true false) next), (5, AV.v (Ty.int IntKind.i64) (Md.bor false true) most), (9, AV.v (Ty.int IntKind.i64).sl.sl (Md.bor true false) next), (11, AV.rop (Ty.int IntKind.i64).sl (Md.bor true false) (next.getD i.toNat [])), (12, AV.v (Ty.int IntKind.i64).sl (Md.bor true false) (next.getD i.toNat [])), (13, AV.v (Ty.int IntKind.i64) (Md.bor false true) (↑(List.length (next.getD i.toNat [])) : Int)), (14, AV.v (Ty.int IntKind.i64) (Md.bor false true) t14)]⟩
theorem ref_Level_h0 (nf : Nat) (self : denPs [.val (.sl (.sl (.int .i64))) (.bor true false), .val (.int .i64) (.bor true false)] → Option (denL [(.int .i64, .bor false true)]))  (next : List (List Int)) (i : Int) (fu : Nat) (most : Int) (t14 : Int) : iter (fu + 1) (LC.F tab (ref_Level_phi nf self) (fun _ F => iter nf F) ref_Level_keep 0 (ref_Level_L0 nf self )) (ref_Level_m0 next i most t14) = ref_Level_b0 nf self  next i  (fun most t14 => iter fu (LC.F tab (ref_Level_phi nf self) (fun _ F => iter nf F) ref_Level_keep 0 (ref_Level_L0 nf self )) (ref_Level_m0 next i most t14)) most t14 := by kernel_rfl
theorem ref_Level_e0 (nf : Nat) (self : denPs [.val (.sl (.sl (.int .i64))) (.bor true false), .val (.int .i64) (.bor true false)] → Option (denL [(.int .i64, .bor false true)]))  (next : List (List Int)) (i : Int) : ∀ (fu : Nat) (most : Int) (t14 : Int), iter fu (LC.F tab (ref_Level_phi nf self) (fun _ F => iter nf F) ref_Level_keep 0 (ref_Level_L0 nf self )) (ref_Level_m0 next i most t14) = ref_Level_l0 nf self next i  fu most t14 := by
  intro fu
  induction fu with
  | zero => intros; rfl
  | succ fu ih =>
    intro most t14
    rw [ref_Level_h0 nf self  next i fu most t14]
    simp only [ih]
    rfl
theorem ref_Level_eq (nf : Nat) (self : denPs [.val (.sl (.sl (.int .i64))) (.bor true false), .val (.int .i64) (.bor true false)] → Option (denL [(.int .i64, .bor false true)])) (next : List (List Int)) (i : Int) : runF tab (ref_Level_phi nf self) ref_Level_keep nf [PT.val (Ty.int IntKind.i64).sl.sl (Md.bor true false), PT.val (Ty.int IntKind.i64) (Md.bor true false)] [(Ty.int IntKind.i64, Md.bor false true)] (resL (none) Try.f25) (codeOf Try.f25) ⟨next, i, ()⟩ = ref_Level_f nf self next i := by
  have h : runF tab (ref_Level_phi nf self) ref_Level_keep nf [PT.val (Ty.int IntKind.i64).sl.sl (Md.bor true false), PT.val (Ty.int IntKind.i64) (Md.bor true false)] [(Ty.int IntKind.i64, Md.bor false true)] (resL (none) Try.f25) (codeOf Try.f25) ⟨next, i, ()⟩ = ref_Level_p nf self (fun p0 p1 v0 v1 => iter nf (LC.F tab (ref_Level_phi nf self) (fun _ F => iter nf F) ref_Level_keep 0 (ref_Level_L0 nf self)) (ref_Level_m0 p0 p1 v0 v1)) next i := by kernel_rfl
  rw [h]
  simp only [ref_Level_e0]
  rfl
def ref_Level_F : Nat → denPs [.val (.sl (.sl (.int .i64))) (.bor true false), .val (.int .i64) (.bor true false)] → Option (denL [(.int .i64, .bor false true)])
  | 0, _ => none
  | nf + 1, x => ref_Level_f nf (ref_Level_F nf) x.1 x.2.1
def ref_Level_C (nf : Nat) : Contract := ⟨[.val (.sl (.sl (.int .i64))) (.bor true false), .val (.int .i64) (.bor true false)], [(.int .i64, .bor false true)], ref_Level_F nf, none⟩
theorem ref_Level_ok : FnOK Try.prog 25 := ⟨Try.f25, codeOf Try.f25, Try.func25, by kernel_rfl, by kernel_rfl⟩
theorem ref_Level_holds : ∀ (nf : Nat), Contract.Holds Try.prog 25 (ref_Level_C nf)
  | 0 => fun _ _ h => by cases h
  | nf + 1 => by
    have ih := ref_Level_holds nf
    exact fn_holds (Φ := ref_Level_phi nf (ref_Level_F nf)) (keep := ref_Level_keep) (n := nf) ⟨tabs.1, tabs.2, (ctx_cons ref_Level_ok (ih) ctx_nil), mixed⟩ (fn := Try.f25) ⟨Try.func25, by kernel_rfl, by kernel_rfl, by kernel_rfl⟩ (fun x => ref_Level_eq nf (ref_Level_F nf) x.1 x.2.1)

/-! codemason codemasonlaw.PlanLevels -/
def law_PlanLevels_phi (nf : Nat) : Nat → Option Contract := lookC [(23, plan_Levels_C nf), (24, ref_TasksCheck_C nf), (25, ref_Level_C nf), (26, ref_Behinds_C nf)]
def law_PlanLevels_keep : Nat → List Nat := lookK [(0, [0, 1, 5, 6, 8, 9, 12, 13])]
def law_PlanLevels_b0 (nf : Nat) (n' : Int) (pairs : List (Int × Int × Unit)) (r : List Int × Int × Unit) (g0 : List Int → Int → Option (Bool × Unit)) (l' : List Int) (i : Int) : Option (Bool × Unit) :=
  bif decide (i < n') then
    bif decide (i < (↑l'.length : Int)) then
      bif inb i l'.length then
        Option.bind (ref_Behinds_f nf n' pairs) fun r3 =>
        Option.bind (ref_Level_F nf (r3.fst, i, ())) fun r4 =>
        bif l'.getD i.toNat 0 != r4.fst then
          some ((false, ()))
        else
          g0 l' (IntKind.i64.wrap (i + 1))
      else
        none
    else
      bif r.snd.fst == 0 then
        some (((↑l'.length : Int) == n', ()))
      else
        some ((false, ()))
  else
    bif r.snd.fst == 0 then
      some (((↑l'.length : Int) == n', ()))
    else
      some ((false, ()))
def law_PlanLevels_p (nf : Nat) (l0 : Int → List (Int × Int × Unit) → List Int × Int × Unit → List Int → Int → Option (Bool × Unit)) (n' : Int) (pairs : List (Int × Int × Unit)) : Option (Bool × Unit) :=
  Option.bind (plan_Levels_f nf n' pairs) fun r =>
  Option.bind (ref_TasksCheck_f nf n' pairs) fun r2 =>
  bif r2.fst != 0 then
    bif r.snd.fst == r2.fst then
      some (((↑(List.length r.fst) : Int) == 0, ()))
    else
      some ((false, ()))
  else
    l0 n' pairs r r.fst 0
def law_PlanLevels_l0 (nf : Nat) (n' : Int) (pairs : List (Int × Int × Unit)) (r : List Int × Int × Unit) : Nat → List Int → Int → Option (Bool × Unit)
  | 0, _, _ => none
  | fu + 1, l', i => law_PlanLevels_b0 nf  n' pairs r  (law_PlanLevels_l0 nf n' pairs r  fu) l' i
def law_PlanLevels_f (nf : Nat) (n' : Int) (pairs : List (Int × Int × Unit)) : Option (Bool × Unit) := law_PlanLevels_p nf (fun p0 p1 p2 v0 v1 => law_PlanLevels_l0 nf p0 p1 p2 nf v0 v1) n' pairs
noncomputable def law_PlanLevels_L0 (nf : Nat) : LC (Bool × Unit) := theL (findL tab (law_PlanLevels_phi nf) (fun _ F => iter nf F) law_PlanLevels_keep 0 0 (codeOf Try.f7) (fin tab [(Ty.bool, Md.bor false true)] (resL (none) Try.f7)) (fun _ _ => none) (fin tab [(Ty.bool, Md.bor false true)] (resL (none) Try.f7)))
def law_PlanLevels_m0 (n' : Int) (pairs : List (Int × Int × Unit)) (r : List Int × Int × Unit) (l' : List Int) (i : Int) : St := ⟨fresh, [(0, AV.v (Ty.int IntKind.i64) (Md.bor false true) n'), (1, AV.v ((Ty.int IntKind.i64).pair ((Ty.int IntKind.i64).pair Ty.unit)).sl (Md.bor true false) pairs), (5, AV.ow 500005 (Ty.int IntKind.i64).sl (Md.own false (Md.bor false false)) l'), (6, AV.v (Ty.int IntKind.i64) (Md.bor false true) r.snd.fst), (8, AV.v (Ty.int IntKind.i64) (Md.bor false true) i), (9, AV.dead), (12, AV.dead), (13, AV.dead)]⟩
theorem law_PlanLevels_h0 (nf : Nat)  (n' : Int) (pairs : List (Int × Int × Unit)) (r : List Int × Int × Unit) (fu : Nat) (l' : List Int) (i : Int) : iter (fu + 1) (LC.F tab (law_PlanLevels_phi nf) (fun _ F => iter nf F) law_PlanLevels_keep 0 (law_PlanLevels_L0 nf )) (law_PlanLevels_m0 n' pairs r l' i) = law_PlanLevels_b0 nf  n' pairs r  (fun l' i => iter fu (LC.F tab (law_PlanLevels_phi nf) (fun _ F => iter nf F) law_PlanLevels_keep 0 (law_PlanLevels_L0 nf )) (law_PlanLevels_m0 n' pairs r l' i)) l' i := by kernel_rfl
theorem law_PlanLevels_e0 (nf : Nat)  (n' : Int) (pairs : List (Int × Int × Unit)) (r : List Int × Int × Unit) : ∀ (fu : Nat) (l' : List Int) (i : Int), iter fu (LC.F tab (law_PlanLevels_phi nf) (fun _ F => iter nf F) law_PlanLevels_keep 0 (law_PlanLevels_L0 nf )) (law_PlanLevels_m0 n' pairs r l' i) = law_PlanLevels_l0 nf n' pairs r  fu l' i := by
  intro fu
  induction fu with
  | zero => intros; rfl
  | succ fu ih =>
    intro l' i
    rw [law_PlanLevels_h0 nf  n' pairs r fu l' i]
    simp only [ih]
    rfl
theorem law_PlanLevels_eq (nf : Nat) (n' : Int) (pairs : List (Int × Int × Unit)) : runF tab (law_PlanLevels_phi nf) law_PlanLevels_keep nf [PT.val (Ty.int IntKind.i64) (Md.bor true false), PT.val ((Ty.int IntKind.i64).pair ((Ty.int IntKind.i64).pair Ty.unit)).sl (Md.bor true false)] [(Ty.bool, Md.bor false true)] (resL (none) Try.f7) (codeOf Try.f7) ⟨n', pairs, ()⟩ = law_PlanLevels_f nf n' pairs := by
  have h : runF tab (law_PlanLevels_phi nf) law_PlanLevels_keep nf [PT.val (Ty.int IntKind.i64) (Md.bor true false), PT.val ((Ty.int IntKind.i64).pair ((Ty.int IntKind.i64).pair Ty.unit)).sl (Md.bor true false)] [(Ty.bool, Md.bor false true)] (resL (none) Try.f7) (codeOf Try.f7) ⟨n', pairs, ()⟩ = law_PlanLevels_p nf (fun p0 p1 p2 v0 v1 => iter nf (LC.F tab (law_PlanLevels_phi nf) (fun _ F => iter nf F) law_PlanLevels_keep 0 (law_PlanLevels_L0 nf)) (law_PlanLevels_m0 p0 p1 p2 v0 v1)) n' pairs := by kernel_rfl
  rw [h]
  simp only [law_PlanLevels_e0]
  rfl
def law_PlanLevels_F (nf : Nat) (x : denPs [.val (.int .i64) (.bor true false), .val (.sl (.pair (.int .i64) (.pair (.int .i64) (.unit)))) (.bor true false)]) : Option (denL [(.bool, .bor false true)]) := law_PlanLevels_f nf x.1 x.2.1
def law_PlanLevels_C (nf : Nat) : Contract := ⟨[.val (.int .i64) (.bor true false), .val (.sl (.pair (.int .i64) (.pair (.int .i64) (.unit)))) (.bor true false)], [(.bool, .bor false true)], law_PlanLevels_F nf, none⟩
theorem law_PlanLevels_ok : FnOK Try.prog 7 := ⟨Try.f7, codeOf Try.f7, Try.func7, by kernel_rfl, by kernel_rfl⟩
theorem law_PlanLevels_holds (nf : Nat) : Contract.Holds Try.prog 7 (law_PlanLevels_C nf) :=
  fn_holds (Φ := law_PlanLevels_phi nf) (keep := law_PlanLevels_keep) (n := nf) ⟨tabs.1, tabs.2, (ctx_cons plan_Levels_ok (plan_Levels_holds nf) (ctx_cons ref_TasksCheck_ok (ref_TasksCheck_holds nf) (ctx_cons ref_Level_ok (ref_Level_holds nf) (ctx_cons ref_Behinds_ok (ref_Behinds_holds nf) ctx_nil)))), mixed⟩ (fn := Try.f7) ⟨Try.func7, by kernel_rfl, by kernel_rfl, by kernel_rfl⟩ (fun x => law_PlanLevels_eq nf x.1 x.2.1)

/-! codemason codemasonref.Ints -/
def ref_Ints_phi (nf : Nat) : Nat → Option Contract := lookC []
def ref_Ints_keep : Nat → List Nat := lookK [(0, [0, 1, 5])]
def ref_Ints_b0 (nf : Nat) (a : List Int) (b : List Int) (g0 : Int → Option (Bool × Unit)) (i : Int) : Option (Bool × Unit) :=
  bif decide (i < (↑a.length : Int)) then
    bif inb i a.length then
      bif inb i b.length then
        bif a.getD i.toNat 0 != b.getD i.toNat 0 then
          some ((false, ()))
        else
          g0 (IntKind.i64.wrap (i + 1))
      else
        none
    else
      none
  else
    some ((true, ()))
def ref_Ints_p (nf : Nat) (l0 : List Int → List Int → Int → Option (Bool × Unit)) (a : List Int) (b : List Int) : Option (Bool × Unit) :=
  bif (↑a.length : Int) != (↑b.length : Int) then
    some ((false, ()))
  else
    l0 a b 0
def ref_Ints_l0 (nf : Nat) (a : List Int) (b : List Int) : Nat → Int → Option (Bool × Unit)
  | 0, _ => none
  | fu + 1, i => ref_Ints_b0 nf  a b  (ref_Ints_l0 nf a b  fu) i
def ref_Ints_f (nf : Nat) (a : List Int) (b : List Int) : Option (Bool × Unit) := ref_Ints_p nf (fun p0 p1 v0 => ref_Ints_l0 nf p0 p1 nf v0) a b
noncomputable def ref_Ints_L0 (nf : Nat) : LC (Bool × Unit) := theL (findL tab (ref_Ints_phi nf) (fun _ F => iter nf F) ref_Ints_keep 0 0 (codeOf Try.f22) (fin tab [(Ty.bool, Md.bor false true)] (resL (none) Try.f22)) (fun _ _ => none) (fin tab [(Ty.bool, Md.bor false true)] (resL (none) Try.f22)))
def ref_Ints_m0 (a : List Int) (b : List Int) (i : Int) : St := ⟨fresh, [(0, AV.v (Ty.int IntKind.i64).sl (Md.bor true false) a), (1, AV.v (Ty.int IntKind.i64).sl (Md.bor true false) b), (5, AV.v (Ty.int IntKind.i64) (Md.bor false true) i)]⟩
theorem ref_Ints_h0 (nf : Nat)  (a : List Int) (b : List Int) (fu : Nat) (i : Int) : iter (fu + 1) (LC.F tab (ref_Ints_phi nf) (fun _ F => iter nf F) ref_Ints_keep 0 (ref_Ints_L0 nf )) (ref_Ints_m0 a b i) = ref_Ints_b0 nf  a b  (fun i => iter fu (LC.F tab (ref_Ints_phi nf) (fun _ F => iter nf F) ref_Ints_keep 0 (ref_Ints_L0 nf )) (ref_Ints_m0 a b i)) i := by kernel_rfl
theorem ref_Ints_e0 (nf : Nat)  (a : List Int) (b : List Int) : ∀ (fu : Nat) (i : Int), iter fu (LC.F tab (ref_Ints_phi nf) (fun _ F => iter nf F) ref_Ints_keep 0 (ref_Ints_L0 nf )) (ref_Ints_m0 a b i) = ref_Ints_l0 nf a b  fu i := by
  intro fu
  induction fu with
  | zero => intros; rfl
  | succ fu ih =>
    intro i
    rw [ref_Ints_h0 nf  a b fu i]
    simp only [ih]
    rfl
theorem ref_Ints_eq (nf : Nat) (a : List Int) (b : List Int) : runF tab (ref_Ints_phi nf) ref_Ints_keep nf [PT.val (Ty.int IntKind.i64).sl (Md.bor true false), PT.val (Ty.int IntKind.i64).sl (Md.bor true false)] [(Ty.bool, Md.bor false true)] (resL (none) Try.f22) (codeOf Try.f22) ⟨a, b, ()⟩ = ref_Ints_f nf a b := by
  have h : runF tab (ref_Ints_phi nf) ref_Ints_keep nf [PT.val (Ty.int IntKind.i64).sl (Md.bor true false), PT.val (Ty.int IntKind.i64).sl (Md.bor true false)] [(Ty.bool, Md.bor false true)] (resL (none) Try.f22) (codeOf Try.f22) ⟨a, b, ()⟩ = ref_Ints_p nf (fun p0 p1 v0 => iter nf (LC.F tab (ref_Ints_phi nf) (fun _ F => iter nf F) ref_Ints_keep 0 (ref_Ints_L0 nf)) (ref_Ints_m0 p0 p1 v0)) a b := by kernel_rfl
  rw [h]
  simp only [ref_Ints_e0]
  rfl
def ref_Ints_F (nf : Nat) (x : denPs [.val (.sl (.int .i64)) (.bor true false), .val (.sl (.int .i64)) (.bor true false)]) : Option (denL [(.bool, .bor false true)]) := ref_Ints_f nf x.1 x.2.1
def ref_Ints_C (nf : Nat) : Contract := ⟨[.val (.sl (.int .i64)) (.bor true false), .val (.sl (.int .i64)) (.bor true false)], [(.bool, .bor false true)], ref_Ints_F nf, none⟩
theorem ref_Ints_ok : FnOK Try.prog 22 := ⟨Try.f22, codeOf Try.f22, Try.func22, by kernel_rfl, by kernel_rfl⟩
theorem ref_Ints_holds (nf : Nat) : Contract.Holds Try.prog 22 (ref_Ints_C nf) :=
  fn_holds (Φ := ref_Ints_phi nf) (keep := ref_Ints_keep) (n := nf) ⟨tabs.1, tabs.2, ctx_nil, mixed⟩ (fn := Try.f22) ⟨Try.func22, by kernel_rfl, by kernel_rfl, by kernel_rfl⟩ (fun x => ref_Ints_eq nf x.1 x.2.1)

/-! codemason plan.List -/
def plan_List_phi (nf : Nat) : Nat → Option Contract := lookC [(41, plan_ahead_C nf), (43, plan_ready_C nf)]
def plan_List_keep : Nat → List Nat := lookK [(4, [0, 2, 3, 10, 15, 16, 17, 18, 19, 22, 25, 26, 67, 79, 80, 81]), (2, [0, 2, 3, 10, 15, 16, 17, 22, 25, 26, 67]), (0, [0, 2, 3, 10, 12, 22, 25, 26, 37, 38, 39])]
def plan_List_b0 (nf : Nat) (l2 : Int → Int → List Int → List Int → List Int → Int → Int → Option (List Int × Int × Unit)) (n' : Int) (hands : Int) (order : List Int) (g0 : List Int → Int → Int → Option (List Int × Int × Unit)) (l' : List Int) (seen : Int) (t39 : Int) : Option (List Int × Int × Unit) :=
  bif decide (t39 < (↑order.length : Int)) then
    bif inb t39 order.length then
      bif decide (order.getD t39.toNat 0 < 0) then
        some (([], 3, ()))
      else
        bif decide (order.getD t39.toNat 0 ≥ n') then
          some (([], 3, ()))
        else
          bif decide (0 ≤ order.getD t39.toNat 0) then
            bif IntKind.u32.wrap (↑(BitVec.ofInt IntKind.u32.bits (shrI IntKind.u32 seen (order.getD t39.toNat 0)) &&& BitVec.ofInt IntKind.u32.bits 1).toNat : Int) == 1 then
              some (([], 3, ()))
            else
              bif decide (0 ≤ order.getD t39.toNat 0) then
                g0 l' (IntKind.u32.wrap (↑(BitVec.ofInt IntKind.u32.bits seen ||| BitVec.ofInt IntKind.u32.bits (shlI IntKind.u32 1 (order.getD t39.toNat 0))).toNat : Int)) (IntKind.i64.wrap (t39 + 1))
              else
                none
          else
            none
    else
      none
  else
    bif (↑order.length : Int) != n' then
      some (([], 3, ()))
    else
      bif decide (0 ≤ n') && decide (n' ≤ n') && decide (n' ≤ (↑lim : Int)) then
        l2 n' hands order l' (List.replicate n'.toNat 0) 0 0
      else
        none
def plan_List_b2 (nf : Nat) (l4 : Int → Int → List Int → Int → Int × Unit → List Int → List Int → Int → Int → Int → Option (List Int × Int × Unit)) (n' : Int) (hands : Int) (order : List Int) (g2 : List Int → List Int → Int → Int → Option (List Int × Int × Unit)) (l'2 : List Int) (out : List Int) (done : Int) (turn : Int) : Option (List Int × Int × Unit) :=
  bif decide (0 ≤ n') then
    bif done != IntKind.u32.wrap (shlI IntKind.u32 1 n' - 1) then
      Option.bind (plan_ready_f nf l'2 done) fun r2 =>
      l4 n' hands order turn r2 l'2 out done hands 0
    else
      some ((out, 0, ()))
  else
    none
def plan_List_b4 (nf : Nat) (n' : Int) (hands : Int) (order : List Int) (turn : Int) (r2 : Int × Unit) (g2 : List Int → List Int → Int → Int → Option (List Int × Int × Unit)) (g4 : List Int → List Int → Int → Int → Int → Option (List Int × Int × Unit)) (l'3 : List Int) (out2 : List Int) (done2 : Int) (left : Int) (t81 : Int) : Option (List Int × Int × Unit) :=
  bif decide (t81 < (↑order.length : Int)) then
    bif inb t81 order.length then
      bif decide (0 ≤ order.getD t81.toNat 0) then
        bif IntKind.u32.wrap (↑(BitVec.ofInt IntKind.u32.bits (shrI IntKind.u32 r2.fst (order.getD t81.toNat 0)) &&& BitVec.ofInt IntKind.u32.bits 1).toNat : Int) == 1 then
          bif decide (left > 0) then
            bif inb (order.getD t81.toNat 0) out2.length then
              bif decide (0 ≤ order.getD t81.toNat 0) then
                g4 l'3 (out2.set (Int.toNat (order.getD t81.toNat 0)) turn) (IntKind.u32.wrap (↑(BitVec.ofInt IntKind.u32.bits done2 ||| BitVec.ofInt IntKind.u32.bits (shlI IntKind.u32 1 (order.getD t81.toNat 0))).toNat : Int)) (IntKind.i64.wrap (left - 1)) (IntKind.i64.wrap (t81 + 1))
              else
                none
            else
              none
          else
            g4 l'3 out2 done2 left (IntKind.i64.wrap (t81 + 1))
        else
          g4 l'3 out2 done2 left (IntKind.i64.wrap (t81 + 1))
      else
        none
    else
      none
  else
    g2 l'3 out2 done2 (IntKind.i64.wrap (turn + 1))
def plan_List_p (nf : Nat) (l0 : Int → Int → List Int → List Int → Int → Int → Option (List Int × Int × Unit)) (n' : Int) (pairs : List (Int × Int × Unit)) (hands : Int) (order : List Int) : Option (List Int × Int × Unit) :=
  Option.bind (plan_ahead_f nf n' pairs) fun r =>
  bif r.snd.fst != 0 then
    some (([], r.snd.fst, ()))
  else
    bif decide (hands < 1) then
      some (([], 4, ()))
    else
      bif decide (hands > 8) then
        some (([], 4, ()))
      else
        l0 n' hands order r.fst 0 0
def plan_List_l4 (nf : Nat) (n' : Int) (hands : Int) (order : List Int) (turn : Int) (r2 : Int × Unit) (g2 : List Int → List Int → Int → Int → Option (List Int × Int × Unit)) : Nat → List Int → List Int → Int → Int → Int → Option (List Int × Int × Unit)
  | 0, _, _, _, _, _ => none
  | fu + 1, l'3, out2, done2, left, t81 => plan_List_b4 nf  n' hands order turn r2 g2 (plan_List_l4 nf n' hands order turn r2 g2 fu) l'3 out2 done2 left t81
def plan_List_l2 (nf : Nat) (n' : Int) (hands : Int) (order : List Int) : Nat → List Int → List Int → Int → Int → Option (List Int × Int × Unit)
  | 0, _, _, _, _ => none
  | fu + 1, l'2, out, done, turn => plan_List_b2 nf (fun _ _ _ p3 p4 v0 v1 v2 v3 v4 => plan_List_l4 nf n' hands order p3 p4 (fun l'2 out done turn => plan_List_l2 nf n' hands order  fu l'2 out done turn) nf v0 v1 v2 v3 v4) n' hands order  (plan_List_l2 nf n' hands order  fu) l'2 out done turn
def plan_List_l0 (nf : Nat) (n' : Int) (hands : Int) (order : List Int) : Nat → List Int → Int → Int → Option (List Int × Int × Unit)
  | 0, _, _, _ => none
  | fu + 1, l', seen, t39 => plan_List_b0 nf (fun _ _ _ v0 v1 v2 v3 => plan_List_l2 nf n' hands order  nf v0 v1 v2 v3) n' hands order  (plan_List_l0 nf n' hands order  fu) l' seen t39
def plan_List_f (nf : Nat) (n' : Int) (pairs : List (Int × Int × Unit)) (hands : Int) (order : List Int) : Option (List Int × Int × Unit) := plan_List_p nf (fun p0 p1 p2 v0 v1 v2 => plan_List_l0 nf p0 p1 p2 nf v0 v1 v2) n' pairs hands order
noncomputable def plan_List_L0 (nf : Nat) : LC (List Int × Int × Unit) := theL (findL tab (plan_List_phi nf) (fun _ F => iter nf F) plan_List_keep 0 0 (codeOf Try.f27) (fin tab [((Ty.int IntKind.i64).sl, Md.own false (Md.bor false false)), (Ty.int IntKind.i64, Md.bor false true)] (resL (none) Try.f27)) (fun _ _ => none) (fin tab [((Ty.int IntKind.i64).sl, Md.own false (Md.bor false false)), (Ty.int IntKind.i64, Md.bor false true)] (resL (none) Try.f27)))
def plan_List_m0 (n' : Int) (hands : Int) (order : List Int) (l' : List Int) (seen : Int) (t39 : Int) : St := ⟨fresh, [(0, AV.v (Ty.int IntKind.i64) (Md.bor false true) n'), (2, AV.v (Ty.int IntKind.i64) (Md.bor false true) hands), (3, AV.v (Ty.int IntKind.i64).sl (Md.bor true false) order), (10, AV.ow 500010 (Ty.int IntKind.u32).sl (Md.own false (Md.bor false false)) l'), (12, AV.v (Ty.int IntKind.u32) (Md.bor false true) seen), (22, AV.dead), (25, AV.dead), (26, AV.dead), (37, AV.v (Ty.int IntKind.i64).sl (Md.bor true false) order), (38, AV.v (Ty.int IntKind.i64) (Md.bor false true) (↑order.length : Int)), (39, AV.v (Ty.int IntKind.i64) (Md.bor false true) t39)]⟩
noncomputable def plan_List_L2 (nf : Nat) : LC (List Int × Int × Unit) := theL (findL tab (plan_List_phi nf) (fun _ F => iter nf F) plan_List_keep 2 0 (codeOf Try.f27) (fin tab [((Ty.int IntKind.i64).sl, Md.own false (Md.bor false false)), (Ty.int IntKind.i64, Md.bor false true)] (resL (none) Try.f27)) (fun _ _ => none) (fin tab [((Ty.int IntKind.i64).sl, Md.own false (Md.bor false false)), (Ty.int IntKind.i64, Md.bor false true)] (resL (none) Try.f27)))
def plan_List_m2 (n' : Int) (hands : Int) (order : List Int) (l'2 : List Int) (out : List Int) (done : Int) (turn : Int) : St := ⟨fresh, [(0, AV.v (Ty.int IntKind.i64) (Md.bor false true) n'), (2, AV.v (Ty.int IntKind.i64) (Md.bor false true) hands), (3, AV.v (Ty.int IntKind.i64).sl (Md.bor true false) order), (10, AV.ow 500010 (Ty.int IntKind.u32).sl (Md.own false (Md.bor false false)) l'2), (15, AV.ow 500015 (Ty.int IntKind.i64).sl (Md.own false (Md.bor false false)) out), (16, AV.v (Ty.int IntKind.u32) (Md.bor false true) done), (17, AV.v (Ty.int IntKind.i64) (Md.bor false true) turn), (22, AV.dead), (25, AV.dead), (26, AV.dead), (67, AV.dead)]⟩
noncomputable def plan_List_L4 (nf : Nat) (G2 : St → Option (List Int × Int × Unit)) : LC (List Int × Int × Unit) := theL (findL tab (plan_List_phi nf) (fun _ F => iter nf F) plan_List_keep 4 2 (plan_List_L2 nf ).c (fun st => norm (plan_List_keep 2) st G2) (plan_List_L2 nf ).Kx (plan_List_L2 nf ).Kr)
def plan_List_m4 (n' : Int) (hands : Int) (order : List Int) (turn : Int) (r2 : Int × Unit) (l'3 : List Int) (out2 : List Int) (done2 : Int) (left : Int) (t81 : Int) : St := ⟨fresh, [(0, AV.v (Ty.int IntKind.i64) (Md.bor false true) n'), (2, AV.v (Ty.int IntKind.i64) (Md.bor false true) hands), (3, AV.v (Ty.int IntKind.i64).sl (Md.bor true false) order), (10, AV.ow 500010 (Ty.int IntKind.u32).sl (Md.own false (Md.bor false false)) l'3), (15, AV.ow 500015 (Ty.int IntKind.i64).sl (Md.own false (Md.bor false false)) out2), (16, AV.v (Ty.int IntKind.u32) (Md.bor false true) done2), (17, AV.v (Ty.int IntKind.i64) (Md.bor false true) turn), (18, AV.v (Ty.int IntKind.u32) (Md.bor false true) r2.fst), (19, AV.v (Ty.int IntKind.i64) (Md.bor false true) left), (22, AV.dead), (25, AV.dead), (26, AV.dead), (67, AV.dead), (79, AV.v (Ty.int IntKind.i64).sl (Md.bor true false) order), (80, AV.v (Ty.int IntKind.i64) (Md.bor false true) (↑order.length : Int)), (81, AV.v (Ty.int IntKind.i64) (Md.bor false true) t81)]⟩
theorem plan_List_h4 (nf : Nat) (G2 : St → Option (List Int × Int × Unit)) (n' : Int) (hands : Int) (order : List Int) (turn : Int) (r2 : Int × Unit) (fu : Nat) (l'3 : List Int) (out2 : List Int) (done2 : Int) (left : Int) (t81 : Int) : iter (fu + 1) (LC.F tab (plan_List_phi nf) (fun _ F => iter nf F) plan_List_keep 4 (plan_List_L4 nf G2)) (plan_List_m4 n' hands order turn r2 l'3 out2 done2 left t81) = plan_List_b4 nf  n' hands order turn r2 (fun l'2 out done turn => G2 (plan_List_m2 n' hands order l'2 out done turn)) (fun l'3 out2 done2 left t81 => iter fu (LC.F tab (plan_List_phi nf) (fun _ F => iter nf F) plan_List_keep 4 (plan_List_L4 nf G2)) (plan_List_m4 n' hands order turn r2 l'3 out2 done2 left t81)) l'3 out2 done2 left t81 := by kernel_rfl
theorem plan_List_e4 (nf : Nat) (G2 : St → Option (List Int × Int × Unit)) (n' : Int) (hands : Int) (order : List Int) (turn : Int) (r2 : Int × Unit) : ∀ (fu : Nat) (l'3 : List Int) (out2 : List Int) (done2 : Int) (left : Int) (t81 : Int), iter fu (LC.F tab (plan_List_phi nf) (fun _ F => iter nf F) plan_List_keep 4 (plan_List_L4 nf G2)) (plan_List_m4 n' hands order turn r2 l'3 out2 done2 left t81) = plan_List_l4 nf n' hands order turn r2 (fun l'2 out done turn => G2 (plan_List_m2 n' hands order l'2 out done turn)) fu l'3 out2 done2 left t81 := by
  intro fu
  induction fu with
  | zero => intros; rfl
  | succ fu ih =>
    intro l'3 out2 done2 left t81
    rw [plan_List_h4 nf G2 n' hands order turn r2 fu l'3 out2 done2 left t81]
    simp only [ih]
    rfl
theorem plan_List_h2 (nf : Nat)  (n' : Int) (hands : Int) (order : List Int) (fu : Nat) (l'2 : List Int) (out : List Int) (done : Int) (turn : Int) : iter (fu + 1) (LC.F tab (plan_List_phi nf) (fun _ F => iter nf F) plan_List_keep 2 (plan_List_L2 nf )) (plan_List_m2 n' hands order l'2 out done turn) = plan_List_b2 nf (fun _ _ _ p3 p4 v0 v1 v2 v3 v4 => iter nf (LC.F tab (plan_List_phi nf) (fun _ F => iter nf F) plan_List_keep 4 (plan_List_L4 nf (iter fu (LC.F tab (plan_List_phi nf) (fun _ F => iter nf F) plan_List_keep 2 (plan_List_L2 nf ))))) (plan_List_m4 n' hands order p3 p4 v0 v1 v2 v3 v4)) n' hands order  (fun l'2 out done turn => iter fu (LC.F tab (plan_List_phi nf) (fun _ F => iter nf F) plan_List_keep 2 (plan_List_L2 nf )) (plan_List_m2 n' hands order l'2 out done turn)) l'2 out done turn := by kernel_rfl
theorem plan_List_e2 (nf : Nat)  (n' : Int) (hands : Int) (order : List Int) : ∀ (fu : Nat) (l'2 : List Int) (out : List Int) (done : Int) (turn : Int), iter fu (LC.F tab (plan_List_phi nf) (fun _ F => iter nf F) plan_List_keep 2 (plan_List_L2 nf )) (plan_List_m2 n' hands order l'2 out done turn) = plan_List_l2 nf n' hands order  fu l'2 out done turn := by
  intro fu
  induction fu with
  | zero => intros; rfl
  | succ fu ih =>
    intro l'2 out done turn
    rw [plan_List_h2 nf  n' hands order fu l'2 out done turn]
    simp only [ih, plan_List_e4]
    rfl
theorem plan_List_h0 (nf : Nat)  (n' : Int) (hands : Int) (order : List Int) (fu : Nat) (l' : List Int) (seen : Int) (t39 : Int) : iter (fu + 1) (LC.F tab (plan_List_phi nf) (fun _ F => iter nf F) plan_List_keep 0 (plan_List_L0 nf )) (plan_List_m0 n' hands order l' seen t39) = plan_List_b0 nf (fun _ _ _ v0 v1 v2 v3 => iter nf (LC.F tab (plan_List_phi nf) (fun _ F => iter nf F) plan_List_keep 2 (plan_List_L2 nf )) (plan_List_m2 n' hands order v0 v1 v2 v3)) n' hands order  (fun l' seen t39 => iter fu (LC.F tab (plan_List_phi nf) (fun _ F => iter nf F) plan_List_keep 0 (plan_List_L0 nf )) (plan_List_m0 n' hands order l' seen t39)) l' seen t39 := by kernel_rfl
theorem plan_List_e0 (nf : Nat)  (n' : Int) (hands : Int) (order : List Int) : ∀ (fu : Nat) (l' : List Int) (seen : Int) (t39 : Int), iter fu (LC.F tab (plan_List_phi nf) (fun _ F => iter nf F) plan_List_keep 0 (plan_List_L0 nf )) (plan_List_m0 n' hands order l' seen t39) = plan_List_l0 nf n' hands order  fu l' seen t39 := by
  intro fu
  induction fu with
  | zero => intros; rfl
  | succ fu ih =>
    intro l' seen t39
    rw [plan_List_h0 nf  n' hands order fu l' seen t39]
    simp only [ih, plan_List_e2]
    rfl
theorem plan_List_eq (nf : Nat) (n' : Int) (pairs : List (Int × Int × Unit)) (hands : Int) (order : List Int) : runF tab (plan_List_phi nf) plan_List_keep nf [PT.val (Ty.int IntKind.i64) (Md.bor true false), PT.val ((Ty.int IntKind.i64).pair ((Ty.int IntKind.i64).pair Ty.unit)).sl (Md.bor true false), PT.val (Ty.int IntKind.i64) (Md.bor true false), PT.val (Ty.int IntKind.i64).sl (Md.bor true false)] [((Ty.int IntKind.i64).sl, Md.own false (Md.bor false false)), (Ty.int IntKind.i64, Md.bor false true)] (resL (none) Try.f27) (codeOf Try.f27) ⟨n', pairs, hands, order, ()⟩ = plan_List_f nf n' pairs hands order := by
  have h : runF tab (plan_List_phi nf) plan_List_keep nf [PT.val (Ty.int IntKind.i64) (Md.bor true false), PT.val ((Ty.int IntKind.i64).pair ((Ty.int IntKind.i64).pair Ty.unit)).sl (Md.bor true false), PT.val (Ty.int IntKind.i64) (Md.bor true false), PT.val (Ty.int IntKind.i64).sl (Md.bor true false)] [((Ty.int IntKind.i64).sl, Md.own false (Md.bor false false)), (Ty.int IntKind.i64, Md.bor false true)] (resL (none) Try.f27) (codeOf Try.f27) ⟨n', pairs, hands, order, ()⟩ = plan_List_p nf (fun p0 p1 p2 v0 v1 v2 => iter nf (LC.F tab (plan_List_phi nf) (fun _ F => iter nf F) plan_List_keep 0 (plan_List_L0 nf)) (plan_List_m0 p0 p1 p2 v0 v1 v2)) n' pairs hands order := by kernel_rfl
  rw [h]
  simp only [plan_List_e0]
  rfl
def plan_List_F (nf : Nat) (x : denPs [.val (.int .i64) (.bor true false), .val (.sl (.pair (.int .i64) (.pair (.int .i64) (.unit)))) (.bor true false), .val (.int .i64) (.bor true false), .val (.sl (.int .i64)) (.bor true false)]) : Option (denL [(.sl (.int .i64), .own false (.bor false false)), (.int .i64, .bor false true)]) := plan_List_f nf x.1 x.2.1 x.2.2.1 x.2.2.2.1
def plan_List_C (nf : Nat) : Contract := ⟨[.val (.int .i64) (.bor true false), .val (.sl (.pair (.int .i64) (.pair (.int .i64) (.unit)))) (.bor true false), .val (.int .i64) (.bor true false), .val (.sl (.int .i64)) (.bor true false)], [(.sl (.int .i64), .own false (.bor false false)), (.int .i64, .bor false true)], plan_List_F nf, none⟩
theorem plan_List_ok : FnOK Try.prog 27 := ⟨Try.f27, codeOf Try.f27, Try.func27, by kernel_rfl, by kernel_rfl⟩
theorem plan_List_holds (nf : Nat) : Contract.Holds Try.prog 27 (plan_List_C nf) :=
  fn_holds (Φ := plan_List_phi nf) (keep := plan_List_keep) (n := nf) ⟨tabs.1, tabs.2, (ctx_cons plan_ahead_ok (plan_ahead_holds nf) (ctx_cons plan_ready_ok (plan_ready_holds nf) ctx_nil)), mixed⟩ (fn := Try.f27) ⟨Try.func27, by kernel_rfl, by kernel_rfl, by kernel_rfl⟩ (fun x => plan_List_eq nf x.1 x.2.1 x.2.2.1 x.2.2.2.1)

/-! codemason codemasonlaw.handsCode -/
def law_handsCode_phi (nf : Nat) : Nat → Option Contract := lookC [(24, ref_TasksCheck_C nf)]
def law_handsCode_keep : Nat → List Nat := lookK []
def law_handsCode_p (nf : Nat)  (n' : Int) (pairs : List (Int × Int × Unit)) (hands : Int) : Option (Int × Unit) :=
  Option.bind (ref_TasksCheck_f nf n' pairs) fun r =>
  bif r.fst == 0 then
    bif decide (hands < 1) then
      some ((4, ()))
    else
      bif decide (hands > 8) then
        some ((4, ()))
      else
        some ((r.fst, ()))
  else
    some ((r.fst, ()))
def law_handsCode_f (nf : Nat) (n' : Int) (pairs : List (Int × Int × Unit)) (hands : Int) : Option (Int × Unit) := law_handsCode_p nf  n' pairs hands
theorem law_handsCode_eq (nf : Nat) (n' : Int) (pairs : List (Int × Int × Unit)) (hands : Int) : runF tab (law_handsCode_phi nf) law_handsCode_keep nf [PT.val (Ty.int IntKind.i64) (Md.bor true false), PT.val ((Ty.int IntKind.i64).pair ((Ty.int IntKind.i64).pair Ty.unit)).sl (Md.bor true false), PT.val (Ty.int IntKind.i64) (Md.bor true false)] [(Ty.int IntKind.i64, Md.bor false true)] (resL (none) Try.f28) (codeOf Try.f28) ⟨n', pairs, hands, ()⟩ = law_handsCode_f nf n' pairs hands := by
  have h : runF tab (law_handsCode_phi nf) law_handsCode_keep nf [PT.val (Ty.int IntKind.i64) (Md.bor true false), PT.val ((Ty.int IntKind.i64).pair ((Ty.int IntKind.i64).pair Ty.unit)).sl (Md.bor true false), PT.val (Ty.int IntKind.i64) (Md.bor true false)] [(Ty.int IntKind.i64, Md.bor false true)] (resL (none) Try.f28) (codeOf Try.f28) ⟨n', pairs, hands, ()⟩ = law_handsCode_p nf  n' pairs hands := by kernel_rfl
  exact h
def law_handsCode_F (nf : Nat) (x : denPs [.val (.int .i64) (.bor true false), .val (.sl (.pair (.int .i64) (.pair (.int .i64) (.unit)))) (.bor true false), .val (.int .i64) (.bor true false)]) : Option (denL [(.int .i64, .bor false true)]) := law_handsCode_f nf x.1 x.2.1 x.2.2.1
def law_handsCode_C (nf : Nat) : Contract := ⟨[.val (.int .i64) (.bor true false), .val (.sl (.pair (.int .i64) (.pair (.int .i64) (.unit)))) (.bor true false), .val (.int .i64) (.bor true false)], [(.int .i64, .bor false true)], law_handsCode_F nf, none⟩
theorem law_handsCode_ok : FnOK Try.prog 28 := ⟨Try.f28, codeOf Try.f28, Try.func28, by kernel_rfl, by kernel_rfl⟩
theorem law_handsCode_holds (nf : Nat) : Contract.Holds Try.prog 28 (law_handsCode_C nf) :=
  fn_holds (Φ := law_handsCode_phi nf) (keep := law_handsCode_keep) (n := nf) ⟨tabs.1, tabs.2, (ctx_cons ref_TasksCheck_ok (ref_TasksCheck_holds nf) ctx_nil), mixed⟩ (fn := Try.f28) ⟨Try.func28, by kernel_rfl, by kernel_rfl, by kernel_rfl⟩ (fun x => law_handsCode_eq nf x.1 x.2.1 x.2.2.1)

/-! codemason codemasonref.Once -/
def ref_Once_phi (nf : Nat) : Nat → Option Contract := lookC [(21, ref_Has_C nf)]
def ref_Once_keep : Nat → List Nat := lookK [(0, [0, 1, 5])]
def ref_Once_b0 (nf : Nat) (n' : Int) (l' : List Int) (g0 : Int → Option (Bool × Unit)) (i : Int) : Option (Bool × Unit) :=
  bif decide (i < n') then
    Option.bind (ref_Has_f nf l' i) fun r =>
    bif !r.fst then
      some ((false, ()))
    else
      g0 (IntKind.i64.wrap (i + 1))
  else
    some ((true, ()))
def ref_Once_p (nf : Nat) (l0 : Int → List Int → Int → Option (Bool × Unit)) (n' : Int) (l' : List Int) : Option (Bool × Unit) :=
  bif (↑l'.length : Int) != n' then
    some ((false, ()))
  else
    l0 n' l' 0
def ref_Once_l0 (nf : Nat) (n' : Int) (l' : List Int) : Nat → Int → Option (Bool × Unit)
  | 0, _ => none
  | fu + 1, i => ref_Once_b0 nf  n' l'  (ref_Once_l0 nf n' l'  fu) i
def ref_Once_f (nf : Nat) (n' : Int) (l' : List Int) : Option (Bool × Unit) := ref_Once_p nf (fun p0 p1 v0 => ref_Once_l0 nf p0 p1 nf v0) n' l'
noncomputable def ref_Once_L0 (nf : Nat) : LC (Bool × Unit) := theL (findL tab (ref_Once_phi nf) (fun _ F => iter nf F) ref_Once_keep 0 0 (codeOf Try.f29) (fin tab [(Ty.bool, Md.bor false true)] (resL (none) Try.f29)) (fun _ _ => none) (fin tab [(Ty.bool, Md.bor false true)] (resL (none) Try.f29)))
def ref_Once_m0 (n' : Int) (l' : List Int) (i : Int) : St := ⟨fresh, [(0, AV.v (Ty.int IntKind.i64) (Md.bor false true) n'), (1, AV.v (Ty.int IntKind.i64).sl (Md.bor true false) l'), (5, AV.v (Ty.int IntKind.i64) (Md.bor false true) i)]⟩
theorem ref_Once_h0 (nf : Nat)  (n' : Int) (l' : List Int) (fu : Nat) (i : Int) : iter (fu + 1) (LC.F tab (ref_Once_phi nf) (fun _ F => iter nf F) ref_Once_keep 0 (ref_Once_L0 nf )) (ref_Once_m0 n' l' i) = ref_Once_b0 nf  n' l'  (fun i => iter fu (LC.F tab (ref_Once_phi nf) (fun _ F => iter nf F) ref_Once_keep 0 (ref_Once_L0 nf )) (ref_Once_m0 n' l' i)) i := by kernel_rfl
theorem ref_Once_e0 (nf : Nat)  (n' : Int) (l' : List Int) : ∀ (fu : Nat) (i : Int), iter fu (LC.F tab (ref_Once_phi nf) (fun _ F => iter nf F) ref_Once_keep 0 (ref_Once_L0 nf )) (ref_Once_m0 n' l' i) = ref_Once_l0 nf n' l'  fu i := by
  intro fu
  induction fu with
  | zero => intros; rfl
  | succ fu ih =>
    intro i
    rw [ref_Once_h0 nf  n' l' fu i]
    simp only [ih]
    rfl
theorem ref_Once_eq (nf : Nat) (n' : Int) (l' : List Int) : runF tab (ref_Once_phi nf) ref_Once_keep nf [PT.val (Ty.int IntKind.i64) (Md.bor true false), PT.val (Ty.int IntKind.i64).sl (Md.bor true false)] [(Ty.bool, Md.bor false true)] (resL (none) Try.f29) (codeOf Try.f29) ⟨n', l', ()⟩ = ref_Once_f nf n' l' := by
  have h : runF tab (ref_Once_phi nf) ref_Once_keep nf [PT.val (Ty.int IntKind.i64) (Md.bor true false), PT.val (Ty.int IntKind.i64).sl (Md.bor true false)] [(Ty.bool, Md.bor false true)] (resL (none) Try.f29) (codeOf Try.f29) ⟨n', l', ()⟩ = ref_Once_p nf (fun p0 p1 v0 => iter nf (LC.F tab (ref_Once_phi nf) (fun _ F => iter nf F) ref_Once_keep 0 (ref_Once_L0 nf)) (ref_Once_m0 p0 p1 v0)) n' l' := by kernel_rfl
  rw [h]
  simp only [ref_Once_e0]
  rfl
def ref_Once_F (nf : Nat) (x : denPs [.val (.int .i64) (.bor true false), .val (.sl (.int .i64)) (.bor true false)]) : Option (denL [(.bool, .bor false true)]) := ref_Once_f nf x.1 x.2.1
def ref_Once_C (nf : Nat) : Contract := ⟨[.val (.int .i64) (.bor true false), .val (.sl (.int .i64)) (.bor true false)], [(.bool, .bor false true)], ref_Once_F nf, none⟩
theorem ref_Once_ok : FnOK Try.prog 29 := ⟨Try.f29, codeOf Try.f29, Try.func29, by kernel_rfl, by kernel_rfl⟩
theorem ref_Once_holds (nf : Nat) : Contract.Holds Try.prog 29 (ref_Once_C nf) :=
  fn_holds (Φ := ref_Once_phi nf) (keep := ref_Once_keep) (n := nf) ⟨tabs.1, tabs.2, (ctx_cons ref_Has_ok (ref_Has_holds nf) ctx_nil), mixed⟩ (fn := Try.f29) ⟨Try.func29, by kernel_rfl, by kernel_rfl, by kernel_rfl⟩ (fun x => ref_Once_eq nf x.1 x.2.1)

/-! codemason codemasonlaw.PlanLists -/
def law_PlanLists_phi (nf : Nat) : Nat → Option Contract := lookC [(21, ref_Has_C nf), (22, ref_Ints_C nf), (27, plan_List_C nf), (28, law_handsCode_C nf), (29, ref_Once_C nf)]
def law_PlanLists_keep : Nat → List Nat := lookK [(4, [0, 1, 2, 3, 9, 10, 12, 13, 14, 15, 17, 18, 21, 26, 27, 52, 59, 60, 61, 75, 76, 77, 99, 107]), (2, [0, 1, 2, 3, 9, 10, 12, 13, 14, 15, 21, 26, 27, 52, 59, 60, 61, 99, 107]), (0, [0, 1, 2, 3, 9, 10, 12, 13, 14, 21, 26, 27, 52, 99, 107])]
def law_PlanLists_b0 (nf : Nat) (l2 : Int → List (Int × Int × Unit) → Int → List Int → List Int × Int × Unit → Int → List Int → List Int → List Int → List Int → Int → Option (Bool × Unit)) (n' : Int) (pairs : List (Int × Int × Unit)) (hands : Int) (order : List Int) (r : List Int × Int × Unit) (g0 : List Int → List Int → List Int → Int → Option (Bool × Unit)) (l' : List Int) (want : List Int) (done : List Int) (turn : Int) : Option (Bool × Unit) :=
  bif decide ((↑done.length : Int) < n') then
    l2 n' pairs hands order r turn l' want done [] 0
  else
    bif r.snd.fst == 0 then
      Option.bind (ref_Ints_f nf l' want) fun r6 =>
      some ((r6.fst, ()))
    else
      some ((false, ()))
def law_PlanLists_b2 (nf : Nat) (l4 : Int → List (Int × Int × Unit) → Int → List Int → List Int × Int × Unit → Int → Int → List Int → List Int → List Int → List Int → Bool → Int → Option (Bool × Unit)) (n' : Int) (pairs : List (Int × Int × Unit)) (hands : Int) (order : List Int) (r : List Int × Int × Unit) (turn : Int) (g0 : List Int → List Int → List Int → Int → Option (Bool × Unit)) (g2 : List Int → List Int → List Int → List Int → Int → Option (Bool × Unit)) (l'2 : List Int) (want2 : List Int) (done2 : List Int) (now : List Int) (t61 : Int) : Option (Bool × Unit) :=
  bif decide (t61 < (↑order.length : Int)) then
    bif inb t61 order.length then
      Option.bind (ref_Has_f nf done2 (order.getD t61.toNat 0)) fun r4 =>
      bif !r4.fst then
        l4 n' pairs hands order r turn t61 l'2 want2 done2 now (decide ((↑now.length : Int) < hands)) 0
      else
        l4 n' pairs hands order r turn t61 l'2 want2 done2 now false 0
    else
      none
  else
    bif bimp false !now.isEmpty && (done2.length + now.length).ble lim then
      g0 l'2 want2 (done2 ++ now) (IntKind.i64.wrap (turn + 1))
    else
      none
def law_PlanLists_b4 (nf : Nat) (n' : Int) (pairs : List (Int × Int × Unit)) (hands : Int) (order : List Int) (r : List Int × Int × Unit) (turn : Int) (t61 : Int) (g2 : List Int → List Int → List Int → List Int → Int → Option (Bool × Unit)) (g0 : List Int → List Int → List Int → Int → Option (Bool × Unit)) (g4 : List Int → List Int → List Int → List Int → Bool → Int → Option (Bool × Unit)) (l'3 : List Int) (want3 : List Int) (done3 : List Int) (now2 : List Int) (ok : Bool) (t77 : Int) : Option (Bool × Unit) :=
  bif decide (t77 < (↑pairs.length : Int)) then
    bif inb t77 pairs.length then
      bif ok then
        bif (pairs.getD t77.toNat (0, 0, ())).snd.fst != order.getD t61.toNat 0 then
          g4 l'3 want3 done3 now2 true (IntKind.i64.wrap (t77 + 1))
        else
          Option.bind (ref_Has_f nf done3 ((pairs.getD t77.toNat (0, 0, ())).fst)) fun r5 =>
          g4 l'3 want3 done3 now2 r5.fst (IntKind.i64.wrap (t77 + 1))
      else
        g4 l'3 want3 done3 now2 false (IntKind.i64.wrap (t77 + 1))
    else
      none
  else
    bif ok then
      bif bimp false ![order.getD t61.toNat 0].isEmpty && (now2.length + [order.getD t61.toNat 0].length).ble lim then
        bif inb (order.getD t61.toNat 0) want3.length then
          g2 l'3 (want3.set (Int.toNat (order.getD t61.toNat 0)) turn) done3 (now2 ++ [order.getD t61.toNat 0]) (IntKind.i64.wrap (t61 + 1))
        else
          none
      else
        none
    else
      g2 l'3 want3 done3 now2 (IntKind.i64.wrap (t61 + 1))
def law_PlanLists_p (nf : Nat) (l0 : Int → List (Int × Int × Unit) → Int → List Int → List Int × Int × Unit → List Int → List Int → List Int → Int → Option (Bool × Unit)) (n' : Int) (pairs : List (Int × Int × Unit)) (hands : Int) (order : List Int) : Option (Bool × Unit) :=
  Option.bind (plan_List_f nf n' pairs hands order) fun r =>
  Option.bind (law_handsCode_f nf n' pairs hands) fun r2 =>
  bif r2.fst == 0 then
    Option.bind (ref_Once_f nf n' order) fun r3 =>
    bif !r3.fst then
      bif r.snd.fst == 3 then
        some (((↑(List.length r.fst) : Int) == 0, ()))
      else
        some ((false, ()))
    else
      bif r2.fst != 0 then
        bif r.snd.fst == r2.fst then
          some (((↑(List.length r.fst) : Int) == 0, ()))
        else
          some ((false, ()))
      else
        bif decide (0 ≤ n') && decide (n' ≤ n') && decide (n' ≤ (↑lim : Int)) then
          l0 n' pairs hands order r r.fst (List.replicate n'.toNat 0) [] 0
        else
          none
  else
    bif r2.fst != 0 then
      bif r.snd.fst == r2.fst then
        some (((↑(List.length r.fst) : Int) == 0, ()))
      else
        some ((false, ()))
    else
      bif decide (0 ≤ n') && decide (n' ≤ n') && decide (n' ≤ (↑lim : Int)) then
        l0 n' pairs hands order r r.fst (List.replicate n'.toNat 0) [] 0
      else
        none
def law_PlanLists_l4 (nf : Nat) (n' : Int) (pairs : List (Int × Int × Unit)) (hands : Int) (order : List Int) (r : List Int × Int × Unit) (turn : Int) (t61 : Int) (g2 : List Int → List Int → List Int → List Int → Int → Option (Bool × Unit)) (g0 : List Int → List Int → List Int → Int → Option (Bool × Unit)) : Nat → List Int → List Int → List Int → List Int → Bool → Int → Option (Bool × Unit)
  | 0, _, _, _, _, _, _ => none
  | fu + 1, l'3, want3, done3, now2, ok, t77 => law_PlanLists_b4 nf  n' pairs hands order r turn t61 g2 g0 (law_PlanLists_l4 nf n' pairs hands order r turn t61 g2 g0 fu) l'3 want3 done3 now2 ok t77
def law_PlanLists_l2 (nf : Nat) (n' : Int) (pairs : List (Int × Int × Unit)) (hands : Int) (order : List Int) (r : List Int × Int × Unit) (turn : Int) (g0 : List Int → List Int → List Int → Int → Option (Bool × Unit)) : Nat → List Int → List Int → List Int → List Int → Int → Option (Bool × Unit)
  | 0, _, _, _, _, _ => none
  | fu + 1, l'2, want2, done2, now, t61 => law_PlanLists_b2 nf (fun _ _ _ _ _ _ p6 v0 v1 v2 v3 v4 v5 => law_PlanLists_l4 nf n' pairs hands order r turn p6 (fun l'2 want2 done2 now t61 => law_PlanLists_l2 nf n' pairs hands order r turn g0 fu l'2 want2 done2 now t61) g0 nf v0 v1 v2 v3 v4 v5) n' pairs hands order r turn g0 (law_PlanLists_l2 nf n' pairs hands order r turn g0 fu) l'2 want2 done2 now t61
def law_PlanLists_l0 (nf : Nat) (n' : Int) (pairs : List (Int × Int × Unit)) (hands : Int) (order : List Int) (r : List Int × Int × Unit) : Nat → List Int → List Int → List Int → Int → Option (Bool × Unit)
  | 0, _, _, _, _ => none
  | fu + 1, l', want, done, turn => law_PlanLists_b0 nf (fun _ _ _ _ _ p5 v0 v1 v2 v3 v4 => law_PlanLists_l2 nf n' pairs hands order r p5 (fun l' want done turn => law_PlanLists_l0 nf n' pairs hands order r  fu l' want done turn) nf v0 v1 v2 v3 v4) n' pairs hands order r  (law_PlanLists_l0 nf n' pairs hands order r  fu) l' want done turn
def law_PlanLists_f (nf : Nat) (n' : Int) (pairs : List (Int × Int × Unit)) (hands : Int) (order : List Int) : Option (Bool × Unit) := law_PlanLists_p nf (fun p0 p1 p2 p3 p4 v0 v1 v2 v3 => law_PlanLists_l0 nf p0 p1 p2 p3 p4 nf v0 v1 v2 v3) n' pairs hands order
noncomputable def law_PlanLists_L0 (nf : Nat) : LC (Bool × Unit) := theL (findL tab (law_PlanLists_phi nf) (fun _ F => iter nf F) law_PlanLists_keep 0 0 (codeOf Try.f8) (fin tab [(Ty.bool, Md.bor false true)] (resL (none) Try.f8)) (fun _ _ => none) (fin tab [(Ty.bool, Md.bor false true)] (resL (none) Try.f8)))
def law_PlanLists_m0 (n' : Int) (pairs : List (Int × Int × Unit)) (hands : Int) (order : List Int) (r : List Int × Int × Unit) (l' : List Int) (want : List Int) (done : List Int) (turn : Int) : St := ⟨fresh, [(0, AV.v (Ty.int IntKind.i64) (Md.bor false true) n'), (1, AV.v ((Ty.int IntKind.i64).pair ((Ty.int IntKind.i64).pair Ty.unit)).sl (Md.bor true false) pairs), (2, AV.v (Ty.int IntKind.i64) (Md.bor false true) hands), (3, AV.v (Ty.int IntKind.i64).sl (Md.bor true false) order), (9, AV.ow 500009 (Ty.int IntKind.i64).sl (Md.own false (Md.bor false false)) l'), (10, AV.v (Ty.int IntKind.i64) (Md.bor false true) r.snd.fst), (12, AV.ow 500012 (Ty.int IntKind.i64).sl (Md.own false (Md.bor false false)) want), (13, AV.ow 500013 (Ty.int IntKind.i64).sl (Md.own false (Md.bor false false)) done), (14, AV.v (Ty.int IntKind.i64) (Md.bor false true) turn), (21, AV.dead), (26, AV.dead), (27, AV.dead), (52, AV.dead), (99, AV.dead), (107, AV.dead)]⟩
noncomputable def law_PlanLists_L2 (nf : Nat) (G0 : St → Option (Bool × Unit)) : LC (Bool × Unit) := theL (findL tab (law_PlanLists_phi nf) (fun _ F => iter nf F) law_PlanLists_keep 2 0 (law_PlanLists_L0 nf ).c (fun st => norm (law_PlanLists_keep 0) st G0) (law_PlanLists_L0 nf ).Kx (law_PlanLists_L0 nf ).Kr)
def law_PlanLists_m2 (n' : Int) (pairs : List (Int × Int × Unit)) (hands : Int) (order : List Int) (r : List Int × Int × Unit) (turn : Int) (l'2 : List Int) (want2 : List Int) (done2 : List Int) (now : List Int) (t61 : Int) : St := ⟨fresh, [(0, AV.v (Ty.int IntKind.i64) (Md.bor false true) n'), (1, AV.v ((Ty.int IntKind.i64).pair ((Ty.int IntKind.i64).pair Ty.unit)).sl (Md.bor true false) pairs), (2, AV.v (Ty.int IntKind.i64) (Md.bor false true) hands), (3, AV.v (Ty.int IntKind.i64).sl (Md.bor true false) order), (9, AV.ow 500009 (Ty.int IntKind.i64).sl (Md.own false (Md.bor false false)) l'2), (10, AV.v (Ty.int IntKind.i64) (Md.bor false true) r.snd.fst), (12, AV.ow 500012 (Ty.int IntKind.i64).sl (Md.own false (Md.bor false false)) want2), (13, AV.ow 500013 (Ty.int IntKind.i64).sl (Md.own false (Md.bor false false)) done2), (14, AV.v (Ty.int IntKind.i64) (Md.bor false true) turn), (15, AV.ow 500015 (Ty.int IntKind.i64).sl (Md.own false (Md.bor false false)) now), (21, AV.dead), (26, AV.dead), (27, AV.dead), (52, AV.dead), (59, AV.v (Ty.int IntKind.i64).sl (Md.bor true false) order), (60, AV.v (Ty.int IntKind.i64) (Md.bor false true) (↑order.length : Int)), (61, AV.v (Ty.int IntKind.i64) (Md.bor false true) t61), (99, AV.dead), (107, AV.dead)]⟩
noncomputable def law_PlanLists_L4 (nf : Nat) (G0 : St → Option (Bool × Unit)) (G2 : St → Option (Bool × Unit)) : LC (Bool × Unit) := theL (findL tab (law_PlanLists_phi nf) (fun _ F => iter nf F) law_PlanLists_keep 4 2 (law_PlanLists_L2 nf G0).c (fun st => norm (law_PlanLists_keep 2) st G2) (law_PlanLists_L2 nf G0).Kx (law_PlanLists_L2 nf G0).Kr)
def law_PlanLists_m4 (n' : Int) (pairs : List (Int × Int × Unit)) (hands : Int) (order : List Int) (r : List Int × Int × Unit) (turn : Int) (t61 : Int) (l'3 : List Int) (want3 : List Int) (done3 : List Int) (now2 : List Int) (ok : Bool) (t77 : Int) : St := ⟨fresh, [(0, AV.v (Ty.int IntKind.i64) (Md.bor false true) n'), (1, AV.v ((Ty.int IntKind.i64).pair ((Ty.int IntKind.i64).pair Ty.unit)).sl (Md.bor true false) pairs), (2, AV.v (Ty.int IntKind.i64) (Md.bor false true) hands), (3, AV.v (Ty.int IntKind.i64).sl (Md.bor true false) order), (9, AV.ow 500009 (Ty.int IntKind.i64).sl (Md.own false (Md.bor false false)) l'3), (10, AV.v (Ty.int IntKind.i64) (Md.bor false true) r.snd.fst), (12, AV.ow 500012 (Ty.int IntKind.i64).sl (Md.own false (Md.bor false false)) want3), (13, AV.ow 500013 (Ty.int IntKind.i64).sl (Md.own false (Md.bor false false)) done3), (14, AV.v (Ty.int IntKind.i64) (Md.bor false true) turn), (15, AV.ow 500015 (Ty.int IntKind.i64).sl (Md.own false (Md.bor false false)) now2), (17, AV.v (Ty.int IntKind.i64) (Md.bor false true) (order.getD t61.toNat 0)), (18, AV.v Ty.bool (Md.bor false true) ok), (21, AV.dead), (26, AV.dead), (27, AV.dead), (52, AV.dead), (59, AV.v (Ty.int IntKind.i64).sl (Md.bor true false) order), (60, AV.v (Ty.int IntKind.i64) (Md.bor false true) (↑order.length : Int)), (61, AV.v (Ty.int IntKind.i64) (Md.bor false true) t61), (75, AV.v ((Ty.int IntKind.i64).pair ((Ty.int IntKind.i64).pair Ty.unit)).sl (Md.bor true false) pairs), (76, AV.v (Ty.int IntKind.i64) (Md.bor false true) (↑pairs.length : Int)), (77, AV.v (Ty.int IntKind.i64) (Md.bor false true) t77), (99, AV.dead), (107, AV.dead)]⟩
theorem law_PlanLists_h4 (nf : Nat) (G0 : St → Option (Bool × Unit)) (G2 : St → Option (Bool × Unit)) (n' : Int) (pairs : List (Int × Int × Unit)) (hands : Int) (order : List Int) (r : List Int × Int × Unit) (turn : Int) (t61 : Int) (fu : Nat) (l'3 : List Int) (want3 : List Int) (done3 : List Int) (now2 : List Int) (ok : Bool) (t77 : Int) : iter (fu + 1) (LC.F tab (law_PlanLists_phi nf) (fun _ F => iter nf F) law_PlanLists_keep 4 (law_PlanLists_L4 nf G0 G2)) (law_PlanLists_m4 n' pairs hands order r turn t61 l'3 want3 done3 now2 ok t77) = law_PlanLists_b4 nf  n' pairs hands order r turn t61 (fun l'2 want2 done2 now t61 => G2 (law_PlanLists_m2 n' pairs hands order r turn l'2 want2 done2 now t61)) (fun l' want done turn => G0 (law_PlanLists_m0 n' pairs hands order r l' want done turn)) (fun l'3 want3 done3 now2 ok t77 => iter fu (LC.F tab (law_PlanLists_phi nf) (fun _ F => iter nf F) law_PlanLists_keep 4 (law_PlanLists_L4 nf G0 G2)) (law_PlanLists_m4 n' pairs hands order r turn t61 l'3 want3 done3 now2 ok t77)) l'3 want3 done3 now2 ok t77 := by kernel_rfl
theorem law_PlanLists_e4 (nf : Nat) (G0 : St → Option (Bool × Unit)) (G2 : St → Option (Bool × Unit)) (n' : Int) (pairs : List (Int × Int × Unit)) (hands : Int) (order : List Int) (r : List Int × Int × Unit) (turn : Int) (t61 : Int) : ∀ (fu : Nat) (l'3 : List Int) (want3 : List Int) (done3 : List Int) (now2 : List Int) (ok : Bool) (t77 : Int), iter fu (LC.F tab (law_PlanLists_phi nf) (fun _ F => iter nf F) law_PlanLists_keep 4 (law_PlanLists_L4 nf G0 G2)) (law_PlanLists_m4 n' pairs hands order r turn t61 l'3 want3 done3 now2 ok t77) = law_PlanLists_l4 nf n' pairs hands order r turn t61 (fun l'2 want2 done2 now t61 => G2 (law_PlanLists_m2 n' pairs hands order r turn l'2 want2 done2 now t61)) (fun l' want done turn => G0 (law_PlanLists_m0 n' pairs hands order r l' want done turn)) fu l'3 want3 done3 now2 ok t77 := by
  intro fu
  induction fu with
  | zero => intros; rfl
  | succ fu ih =>
    intro l'3 want3 done3 now2 ok t77
    rw [law_PlanLists_h4 nf G0 G2 n' pairs hands order r turn t61 fu l'3 want3 done3 now2 ok t77]
    simp only [ih]
    rfl
theorem law_PlanLists_h2 (nf : Nat) (G0 : St → Option (Bool × Unit)) (n' : Int) (pairs : List (Int × Int × Unit)) (hands : Int) (order : List Int) (r : List Int × Int × Unit) (turn : Int) (fu : Nat) (l'2 : List Int) (want2 : List Int) (done2 : List Int) (now : List Int) (t61 : Int) : iter (fu + 1) (LC.F tab (law_PlanLists_phi nf) (fun _ F => iter nf F) law_PlanLists_keep 2 (law_PlanLists_L2 nf G0)) (law_PlanLists_m2 n' pairs hands order r turn l'2 want2 done2 now t61) = law_PlanLists_b2 nf (fun _ _ _ _ _ _ p6 v0 v1 v2 v3 v4 v5 => iter nf (LC.F tab (law_PlanLists_phi nf) (fun _ F => iter nf F) law_PlanLists_keep 4 (law_PlanLists_L4 nf G0 (iter fu (LC.F tab (law_PlanLists_phi nf) (fun _ F => iter nf F) law_PlanLists_keep 2 (law_PlanLists_L2 nf G0))))) (law_PlanLists_m4 n' pairs hands order r turn p6 v0 v1 v2 v3 v4 v5)) n' pairs hands order r turn (fun l' want done turn => G0 (law_PlanLists_m0 n' pairs hands order r l' want done turn)) (fun l'2 want2 done2 now t61 => iter fu (LC.F tab (law_PlanLists_phi nf) (fun _ F => iter nf F) law_PlanLists_keep 2 (law_PlanLists_L2 nf G0)) (law_PlanLists_m2 n' pairs hands order r turn l'2 want2 done2 now t61)) l'2 want2 done2 now t61 := by kernel_rfl
theorem law_PlanLists_e2 (nf : Nat) (G0 : St → Option (Bool × Unit)) (n' : Int) (pairs : List (Int × Int × Unit)) (hands : Int) (order : List Int) (r : List Int × Int × Unit) (turn : Int) : ∀ (fu : Nat) (l'2 : List Int) (want2 : List Int) (done2 : List Int) (now : List Int) (t61 : Int), iter fu (LC.F tab (law_PlanLists_phi nf) (fun _ F => iter nf F) law_PlanLists_keep 2 (law_PlanLists_L2 nf G0)) (law_PlanLists_m2 n' pairs hands order r turn l'2 want2 done2 now t61) = law_PlanLists_l2 nf n' pairs hands order r turn (fun l' want done turn => G0 (law_PlanLists_m0 n' pairs hands order r l' want done turn)) fu l'2 want2 done2 now t61 := by
  intro fu
  induction fu with
  | zero => intros; rfl
  | succ fu ih =>
    intro l'2 want2 done2 now t61
    rw [law_PlanLists_h2 nf G0 n' pairs hands order r turn fu l'2 want2 done2 now t61]
    simp only [ih, law_PlanLists_e4]
    rfl
theorem law_PlanLists_h0 (nf : Nat)  (n' : Int) (pairs : List (Int × Int × Unit)) (hands : Int) (order : List Int) (r : List Int × Int × Unit) (fu : Nat) (l' : List Int) (want : List Int) (done : List Int) (turn : Int) : iter (fu + 1) (LC.F tab (law_PlanLists_phi nf) (fun _ F => iter nf F) law_PlanLists_keep 0 (law_PlanLists_L0 nf )) (law_PlanLists_m0 n' pairs hands order r l' want done turn) = law_PlanLists_b0 nf (fun _ _ _ _ _ p5 v0 v1 v2 v3 v4 => iter nf (LC.F tab (law_PlanLists_phi nf) (fun _ F => iter nf F) law_PlanLists_keep 2 (law_PlanLists_L2 nf (iter fu (LC.F tab (law_PlanLists_phi nf) (fun _ F => iter nf F) law_PlanLists_keep 0 (law_PlanLists_L0 nf ))))) (law_PlanLists_m2 n' pairs hands order r p5 v0 v1 v2 v3 v4)) n' pairs hands order r  (fun l' want done turn => iter fu (LC.F tab (law_PlanLists_phi nf) (fun _ F => iter nf F) law_PlanLists_keep 0 (law_PlanLists_L0 nf )) (law_PlanLists_m0 n' pairs hands order r l' want done turn)) l' want done turn := by kernel_rfl
theorem law_PlanLists_e0 (nf : Nat)  (n' : Int) (pairs : List (Int × Int × Unit)) (hands : Int) (order : List Int) (r : List Int × Int × Unit) : ∀ (fu : Nat) (l' : List Int) (want : List Int) (done : List Int) (turn : Int), iter fu (LC.F tab (law_PlanLists_phi nf) (fun _ F => iter nf F) law_PlanLists_keep 0 (law_PlanLists_L0 nf )) (law_PlanLists_m0 n' pairs hands order r l' want done turn) = law_PlanLists_l0 nf n' pairs hands order r  fu l' want done turn := by
  intro fu
  induction fu with
  | zero => intros; rfl
  | succ fu ih =>
    intro l' want done turn
    rw [law_PlanLists_h0 nf  n' pairs hands order r fu l' want done turn]
    simp only [ih, law_PlanLists_e2]
    rfl
theorem law_PlanLists_eq (nf : Nat) (n' : Int) (pairs : List (Int × Int × Unit)) (hands : Int) (order : List Int) : runF tab (law_PlanLists_phi nf) law_PlanLists_keep nf [PT.val (Ty.int IntKind.i64) (Md.bor true false), PT.val ((Ty.int IntKind.i64).pair ((Ty.int IntKind.i64).pair Ty.unit)).sl (Md.bor true false), PT.val (Ty.int IntKind.i64) (Md.bor true false), PT.val (Ty.int IntKind.i64).sl (Md.bor true false)] [(Ty.bool, Md.bor false true)] (resL (none) Try.f8) (codeOf Try.f8) ⟨n', pairs, hands, order, ()⟩ = law_PlanLists_f nf n' pairs hands order := by
  have h : runF tab (law_PlanLists_phi nf) law_PlanLists_keep nf [PT.val (Ty.int IntKind.i64) (Md.bor true false), PT.val ((Ty.int IntKind.i64).pair ((Ty.int IntKind.i64).pair Ty.unit)).sl (Md.bor true false), PT.val (Ty.int IntKind.i64) (Md.bor true false), PT.val (Ty.int IntKind.i64).sl (Md.bor true false)] [(Ty.bool, Md.bor false true)] (resL (none) Try.f8) (codeOf Try.f8) ⟨n', pairs, hands, order, ()⟩ = law_PlanLists_p nf (fun p0 p1 p2 p3 p4 v0 v1 v2 v3 => iter nf (LC.F tab (law_PlanLists_phi nf) (fun _ F => iter nf F) law_PlanLists_keep 0 (law_PlanLists_L0 nf)) (law_PlanLists_m0 p0 p1 p2 p3 p4 v0 v1 v2 v3)) n' pairs hands order := by kernel_rfl
  rw [h]
  simp only [law_PlanLists_e0]
  rfl
def law_PlanLists_F (nf : Nat) (x : denPs [.val (.int .i64) (.bor true false), .val (.sl (.pair (.int .i64) (.pair (.int .i64) (.unit)))) (.bor true false), .val (.int .i64) (.bor true false), .val (.sl (.int .i64)) (.bor true false)]) : Option (denL [(.bool, .bor false true)]) := law_PlanLists_f nf x.1 x.2.1 x.2.2.1 x.2.2.2.1
def law_PlanLists_C (nf : Nat) : Contract := ⟨[.val (.int .i64) (.bor true false), .val (.sl (.pair (.int .i64) (.pair (.int .i64) (.unit)))) (.bor true false), .val (.int .i64) (.bor true false), .val (.sl (.int .i64)) (.bor true false)], [(.bool, .bor false true)], law_PlanLists_F nf, none⟩
theorem law_PlanLists_ok : FnOK Try.prog 8 := ⟨Try.f8, codeOf Try.f8, Try.func8, by kernel_rfl, by kernel_rfl⟩
theorem law_PlanLists_holds (nf : Nat) : Contract.Holds Try.prog 8 (law_PlanLists_C nf) :=
  fn_holds (Φ := law_PlanLists_phi nf) (keep := law_PlanLists_keep) (n := nf) ⟨tabs.1, tabs.2, (ctx_cons ref_Has_ok (ref_Has_holds nf) (ctx_cons ref_Ints_ok (ref_Ints_holds nf) (ctx_cons plan_List_ok (plan_List_holds nf) (ctx_cons law_handsCode_ok (law_handsCode_holds nf) (ctx_cons ref_Once_ok (ref_Once_holds nf) ctx_nil))))), mixed⟩ (fn := Try.f8) ⟨Try.func8, by kernel_rfl, by kernel_rfl, by kernel_rfl⟩ (fun x => law_PlanLists_eq nf x.1 x.2.1 x.2.2.1 x.2.2.2.1)
end
end Go.Proofs.Ytgbldmehdipfaaa.S
