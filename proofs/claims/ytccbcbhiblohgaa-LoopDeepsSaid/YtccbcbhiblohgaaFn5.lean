/- The functions of the code, as plain functions, and the theorems that say so: made by a program of this proof's own. -/
import Derived.Test.YtccbcbhiblohgaaFn1
import Derived.Test.YtccbcbhiblohgaaFn3
import Derived.Test.YtccbcbhiblohgaaWalkH
import Derived.Test.YtccbcbhiblohgaaFn4
import Derived.Test.YtccbcbhiblohgaaChecked
namespace Go.Proofs.Ytccbcbhiblohgaa.S
open Go Go.Ab
noncomputable section

/-! codemason loop.Tame -/
def loop_Tame_phi (nf : Nat) : Nat → Option Contract := lookC [(31, way_Back_C nf), (65, rule_Rules_C nf)]
def loop_Tame_keep : Nat → List Nat := lookK [(0, [4, 6, 9, 11, 12, 18, 19, 20, 21])]
def loop_Tame_b0 (nf : Nat) (r : List (Int × Int × Unit) × Int × Unit) (g0 : List (Int × Int × Unit) → List Int → Int → Option (Bool × Int × Unit)) (back : List (Int × Int × Unit)) (rules : List Int) (t21 : Int) : Option (Bool × Int × Unit) :=
  bif decide (t21 < (↑(List.length r.fst) : Int)) then
    bif inb t21 back.length then
      bif inb (back.getD t21.toNat (0, 0, ())).fst rules.length then
        bif decide (0 ≤ (back.getD t21.toNat (0, 0, ())).snd.fst) then
          bif IntKind.u32.wrap (↑(BitVec.ofInt IntKind.u32.bits (shrI IntKind.u32 (rules.getD (Int.toNat (back.getD t21.toNat (0, 0, ())).fst) 0) (back.getD t21.toNat (0, 0, ())).snd.fst) &&& BitVec.ofInt IntKind.u32.bits 1).toNat : Int) == 0 then
            some ((false, 0, ()))
          else
            g0 back rules (IntKind.i64.wrap (t21 + 1))
        else
          none
      else
        none
    else
      none
  else
    some ((true, 0, ()))
def loop_Tame_p (nf : Nat) (l0 : List (Int × Int × Unit) × Int × Unit → List (Int × Int × Unit) → List Int → Int → Option (Bool × Int × Unit)) (next : List (List Int)) : Option (Bool × Int × Unit) :=
  Option.bind (way_Back_f nf next) fun r =>
  bif r.snd.fst != 0 then
    some ((false, r.snd.fst, ()))
  else
    Option.bind (rule_Rules_f nf next) fun r2 =>
    l0 r r.fst r2.fst 0
def loop_Tame_l0 (nf : Nat) (r : List (Int × Int × Unit) × Int × Unit) : Nat → List (Int × Int × Unit) → List Int → Int → Option (Bool × Int × Unit)
  | 0, _, _, _ => none
  | fu + 1, back, rules, t21 => loop_Tame_b0 nf  r  (loop_Tame_l0 nf r  fu) back rules t21
def loop_Tame_f (nf : Nat) (next : List (List Int)) : Option (Bool × Int × Unit) := loop_Tame_p nf (fun p0 v0 v1 v2 => loop_Tame_l0 nf p0 nf v0 v1 v2) next
noncomputable def loop_Tame_L0 (nf : Nat) : LC (Bool × Int × Unit) := theL (findL tab (loop_Tame_phi nf) (fun _ F => iter nf F) loop_Tame_keep 0 0 (codeOf Try.f43) (fin tab [(Ty.bool, Md.bor false true), (Ty.int IntKind.i64, Md.bor false true)] (resL (none) Try.f43)) (fun _ _ => none) (fin tab [(Ty.bool, Md.bor false true), (Ty.int IntKind.i64, Md.bor false true)] (resL (none) Try.f43)))
def loop_Tame_m0 (r : List (Int × Int × Unit) × Int × Unit) (back : List (Int × Int × Unit)) (rules : List Int) (t21 : Int) : St := ⟨fresh, [(4, AV.ow 500004 ((Ty.int IntKind.i64).pair ((Ty.int IntKind.i64).pair Ty.unit)).sl (Md.own false (Md.bor false false)) back), (6, AV.ow 500006 (Ty.int IntKind.u32).sl (Md.own false (Md.bor false false)) rules), (9, AV.dead), (11, AV.dead), (12, AV.dead), (18, AV.dead), (19, AV.al 4 500004 []), (20, AV.v (Ty.int IntKind.i64) (Md.bor false true) (↑(List.length r.fst) : Int)), (21, AV.v (Ty.int IntKind.i64) (Md.bor false true) t21)]⟩
theorem loop_Tame_h0 (nf : Nat)  (r : List (Int × Int × Unit) × Int × Unit) (fu : Nat) (back : List (Int × Int × Unit)) (rules : List Int) (t21 : Int) : iter (fu + 1) (LC.F tab (loop_Tame_phi nf) (fun _ F => iter nf F) loop_Tame_keep 0 (loop_Tame_L0 nf )) (loop_Tame_m0 r back rules t21) = loop_Tame_b0 nf  r  (fun back rules t21 => iter fu (LC.F tab (loop_Tame_phi nf) (fun _ F => iter nf F) loop_Tame_keep 0 (loop_Tame_L0 nf )) (loop_Tame_m0 r back rules t21)) back rules t21 := by kernel_rfl
theorem loop_Tame_e0 (nf : Nat)  (r : List (Int × Int × Unit) × Int × Unit) : ∀ (fu : Nat) (back : List (Int × Int × Unit)) (rules : List Int) (t21 : Int), iter fu (LC.F tab (loop_Tame_phi nf) (fun _ F => iter nf F) loop_Tame_keep 0 (loop_Tame_L0 nf )) (loop_Tame_m0 r back rules t21) = loop_Tame_l0 nf r  fu back rules t21 := by
  intro fu
  induction fu with
  | zero => intros; rfl
  | succ fu ih =>
    intro back rules t21
    rw [loop_Tame_h0 nf  r fu back rules t21]
    simp only [ih]
    rfl
theorem loop_Tame_eq (nf : Nat) (next : List (List Int)) : runF tab (loop_Tame_phi nf) loop_Tame_keep nf [PT.val (Ty.int IntKind.i64).sl.sl (Md.bor true false)] [(Ty.bool, Md.bor false true), (Ty.int IntKind.i64, Md.bor false true)] (resL (none) Try.f43) (codeOf Try.f43) ⟨next, ()⟩ = loop_Tame_f nf next := by
  have h : runF tab (loop_Tame_phi nf) loop_Tame_keep nf [PT.val (Ty.int IntKind.i64).sl.sl (Md.bor true false)] [(Ty.bool, Md.bor false true), (Ty.int IntKind.i64, Md.bor false true)] (resL (none) Try.f43) (codeOf Try.f43) ⟨next, ()⟩ = loop_Tame_p nf (fun p0 v0 v1 v2 => iter nf (LC.F tab (loop_Tame_phi nf) (fun _ F => iter nf F) loop_Tame_keep 0 (loop_Tame_L0 nf)) (loop_Tame_m0 p0 v0 v1 v2)) next := by kernel_rfl
  rw [h]
  simp only [loop_Tame_e0]
  rfl
def loop_Tame_F (nf : Nat) (x : denPs [.val (.sl (.sl (.int .i64))) (.bor true false)]) : Option (denL [(.bool, .bor false true), (.int .i64, .bor false true)]) := loop_Tame_f nf x.1
def loop_Tame_C (nf : Nat) : Contract := ⟨[.val (.sl (.sl (.int .i64))) (.bor true false)], [(.bool, .bor false true), (.int .i64, .bor false true)], loop_Tame_F nf, none⟩
theorem loop_Tame_ok : FnOK Try.prog 43 := ⟨Try.f43, codeOf Try.f43, Try.func43, by kernel_rfl, by kernel_rfl⟩
theorem loop_Tame_holds (nf : Nat) : Contract.Holds Try.prog 43 (loop_Tame_C nf) :=
  fn_holds (Φ := loop_Tame_phi nf) (keep := loop_Tame_keep) (n := nf) ⟨tabs.1, tabs.2, (ctx_cons way_Back_ok (way_Back_holds nf) (ctx_cons rule_Rules_ok (rule_Rules_holds nf) ctx_nil)), mixed⟩ (fn := Try.f43) ⟨Try.func43, by kernel_rfl, by kernel_rfl, by kernel_rfl⟩ (fun x => loop_Tame_eq nf x.1)

/-! codemason codemasonref.Tame -/
def ref_Tame_phi (nf : Nat) : Nat → Option Contract := lookC [(33, ref_BackPairs_C nf), (35, ref_Rules_C nf)]
def ref_Tame_keep : Nat → List Nat := lookK [(0, [0, 6, 7, 8])]
def ref_Tame_b0 (nf : Nat) (next : List (List Int)) (r : List (Int × Int × Unit) × Unit) (g0 : List (Int × Int × Unit) → Int → Option (Bool × Unit)) (t6 : List (Int × Int × Unit)) (t8 : Int) : Option (Bool × Unit) :=
  bif decide (t8 < (↑(List.length r.fst) : Int)) then
    bif inb t8 t6.length then
      Option.bind (ref_Rules_f nf next ((t6.getD t8.toNat (0, 0, ())).snd.fst) ((t6.getD t8.toNat (0, 0, ())).fst)) fun r2 =>
      bif !r2.fst then
        some ((false, ()))
      else
        g0 t6 (IntKind.i64.wrap (t8 + 1))
    else
      none
  else
    some ((true, ()))
def ref_Tame_p (nf : Nat) (l0 : List (List Int) → List (Int × Int × Unit) × Unit → List (Int × Int × Unit) → Int → Option (Bool × Unit)) (next : List (List Int)) : Option (Bool × Unit) :=
  Option.bind (ref_BackPairs_f nf next) fun r =>
  l0 next r r.fst 0
def ref_Tame_l0 (nf : Nat) (next : List (List Int)) (r : List (Int × Int × Unit) × Unit) : Nat → List (Int × Int × Unit) → Int → Option (Bool × Unit)
  | 0, _, _ => none
  | fu + 1, t6, t8 => ref_Tame_b0 nf  next r  (ref_Tame_l0 nf next r  fu) t6 t8
def ref_Tame_f (nf : Nat) (next : List (List Int)) : Option (Bool × Unit) := ref_Tame_p nf (fun p0 p1 v0 v1 => ref_Tame_l0 nf p0 p1 nf v0 v1) next
noncomputable def ref_Tame_L0 (nf : Nat) : LC (Bool × Unit) := theL (findL tab (ref_Tame_phi nf) (fun _ F => iter nf F) ref_Tame_keep 0 0 (codeOf Try.f44) (fin tab [(Ty.bool, Md.bor false true)] (resL (none) Try.f44)) (fun _ _ => none) (fin tab [(Ty.bool, Md.bor false true)] (resL (none) Try.f44)))
def ref_Tame_m0 (next : List (List Int)) (r : List (Int × Int × Unit) × Unit) (t6 : List (Int × Int × Unit)) (t8 : Int) : St := ⟨fresh, [(0, AV.v (Ty.int IntKind.i64).sl.sl (Md.bor true false) next), (6, AV.ow 500006 ((Ty.int IntKind.i64).pair ((Ty.int IntKind.i64).pair Ty.unit)).sl (Md.own false (Md.bor false false)) t6), (7, AV.v (Ty.int IntKind.i64) (Md.bor false true) (↑(List.length r.fst) : Int)), (8, AV.v (Ty.int IntKind.i64) (Md.bor false true) t8)]⟩
theorem ref_Tame_h0 (nf : Nat)  (next : List (List Int)) (r : List (Int × Int × Unit) × Unit) (fu : Nat) (t6 : List (Int × Int × Unit)) (t8 : Int) : iter (fu + 1) (LC.F tab (ref_Tame_phi nf) (fun _ F => iter nf F) ref_Tame_keep 0 (ref_Tame_L0 nf )) (ref_Tame_m0 next r t6 t8) = ref_Tame_b0 nf  next r  (fun t6 t8 => iter fu (LC.F tab (ref_Tame_phi nf) (fun _ F => iter nf F) ref_Tame_keep 0 (ref_Tame_L0 nf )) (ref_Tame_m0 next r t6 t8)) t6 t8 := by kernel_rfl
theorem ref_Tame_e0 (nf : Nat)  (next : List (List Int)) (r : List (Int × Int × Unit) × Unit) : ∀ (fu : Nat) (t6 : List (Int × Int × Unit)) (t8 : Int), iter fu (LC.F tab (ref_Tame_phi nf) (fun _ F => iter nf F) ref_Tame_keep 0 (ref_Tame_L0 nf )) (ref_Tame_m0 next r t6 t8) = ref_Tame_l0 nf next r  fu t6 t8 := by
  intro fu
  induction fu with
  | zero => intros; rfl
  | succ fu ih =>
    intro t6 t8
    rw [ref_Tame_h0 nf  next r fu t6 t8]
    simp only [ih]
    rfl
theorem ref_Tame_eq (nf : Nat) (next : List (List Int)) : runF tab (ref_Tame_phi nf) ref_Tame_keep nf [PT.val (Ty.int IntKind.i64).sl.sl (Md.bor true false)] [(Ty.bool, Md.bor false true)] (resL (none) Try.f44) (codeOf Try.f44) ⟨next, ()⟩ = ref_Tame_f nf next := by
  have h : runF tab (ref_Tame_phi nf) ref_Tame_keep nf [PT.val (Ty.int IntKind.i64).sl.sl (Md.bor true false)] [(Ty.bool, Md.bor false true)] (resL (none) Try.f44) (codeOf Try.f44) ⟨next, ()⟩ = ref_Tame_p nf (fun p0 p1 v0 v1 => iter nf (LC.F tab (ref_Tame_phi nf) (fun _ F => iter nf F) ref_Tame_keep 0 (ref_Tame_L0 nf)) (ref_Tame_m0 p0 p1 v0 v1)) next := by kernel_rfl
  rw [h]
  simp only [ref_Tame_e0]
  rfl
def ref_Tame_F (nf : Nat) (x : denPs [.val (.sl (.sl (.int .i64))) (.bor true false)]) : Option (denL [(.bool, .bor false true)]) := ref_Tame_f nf x.1
def ref_Tame_C (nf : Nat) : Contract := ⟨[.val (.sl (.sl (.int .i64))) (.bor true false)], [(.bool, .bor false true)], ref_Tame_F nf, none⟩
theorem ref_Tame_ok : FnOK Try.prog 44 := ⟨Try.f44, codeOf Try.f44, Try.func44, by kernel_rfl, by kernel_rfl⟩
theorem ref_Tame_holds (nf : Nat) : Contract.Holds Try.prog 44 (ref_Tame_C nf) :=
  fn_holds (Φ := ref_Tame_phi nf) (keep := ref_Tame_keep) (n := nf) ⟨tabs.1, tabs.2, (ctx_cons ref_BackPairs_ok (ref_BackPairs_holds nf) (ctx_cons ref_Rules_ok (ref_Rules_holds nf) ctx_nil)), mixed⟩ (fn := Try.f44) ⟨Try.func44, by kernel_rfl, by kernel_rfl, by kernel_rfl⟩ (fun x => ref_Tame_eq nf x.1)

/-! codemason codemasonlaw.LoopTames -/
def law_LoopTames_phi (nf : Nat) : Nat → Option Contract := lookC [(21, ref_WayCheck_C nf), (43, loop_Tame_C nf), (44, ref_Tame_C nf)]
def law_LoopTames_keep : Nat → List Nat := lookK []
def law_LoopTames_p (nf : Nat)  (next : List (List Int)) : Option (Bool × Unit) :=
  Option.bind (loop_Tame_f nf next) fun r =>
  Option.bind (ref_WayCheck_f nf next) fun r2 =>
  bif r2.fst != 0 then
    bif r.snd.fst == r2.fst then
      some ((!r.fst, ()))
    else
      some ((false, ()))
  else
    bif r.snd.fst == 0 then
      Option.bind (ref_Tame_f nf next) fun r3 =>
      some ((r.fst == r3.fst, ()))
    else
      some ((false, ()))
def law_LoopTames_f (nf : Nat) (next : List (List Int)) : Option (Bool × Unit) := law_LoopTames_p nf  next
theorem law_LoopTames_eq (nf : Nat) (next : List (List Int)) : runF tab (law_LoopTames_phi nf) law_LoopTames_keep nf [PT.val (Ty.int IntKind.i64).sl.sl (Md.bor true false)] [(Ty.bool, Md.bor false true)] (resL (none) Try.f14) (codeOf Try.f14) ⟨next, ()⟩ = law_LoopTames_f nf next := by
  have h : runF tab (law_LoopTames_phi nf) law_LoopTames_keep nf [PT.val (Ty.int IntKind.i64).sl.sl (Md.bor true false)] [(Ty.bool, Md.bor false true)] (resL (none) Try.f14) (codeOf Try.f14) ⟨next, ()⟩ = law_LoopTames_p nf  next := by kernel_rfl
  exact h
def law_LoopTames_F (nf : Nat) (x : denPs [.val (.sl (.sl (.int .i64))) (.bor true false)]) : Option (denL [(.bool, .bor false true)]) := law_LoopTames_f nf x.1
def law_LoopTames_C (nf : Nat) : Contract := ⟨[.val (.sl (.sl (.int .i64))) (.bor true false)], [(.bool, .bor false true)], law_LoopTames_F nf, none⟩
theorem law_LoopTames_ok : FnOK Try.prog 14 := ⟨Try.f14, codeOf Try.f14, Try.func14, by kernel_rfl, by kernel_rfl⟩
theorem law_LoopTames_holds (nf : Nat) : Contract.Holds Try.prog 14 (law_LoopTames_C nf) :=
  fn_holds (Φ := law_LoopTames_phi nf) (keep := law_LoopTames_keep) (n := nf) ⟨tabs.1, tabs.2, (ctx_cons ref_WayCheck_ok (ref_WayCheck_holds nf) (ctx_cons loop_Tame_ok (loop_Tame_holds nf) (ctx_cons ref_Tame_ok (ref_Tame_holds nf) ctx_nil))), mixed⟩ (fn := Try.f14) ⟨Try.func14, by kernel_rfl, by kernel_rfl, by kernel_rfl⟩ (fun x => law_LoopTames_eq nf x.1)

/-! codemason loop.to -/
def loop_to_phi (nf : Nat) : Nat → Option Contract := lookC [(59, way_From_C nf)]
def loop_to_keep : Nat → List Nat := lookK [(2, [0, 3, 4, 5, 6, 13, 14, 15, 16, 19, 20, 21, 22, 23]), (0, [0, 3, 4, 13, 14, 15, 16])]
def loop_to_b0 (nf : Nat) (l2 : List (List Int) → Int × Unit → Int → List Int → Int → Option (List Int × Unit)) (next : List (List Int)) (r : Int × Unit) (g0 : List Int → Int → Option (List Int × Unit)) (out : List Int) (t16 : Int) : Option (List Int × Unit) :=
  bif decide (t16 < (↑next.length : Int)) then
    bif inb t16 next.length then
      l2 next r t16 out 0
    else
      none
  else
    some ((out, ()))
def loop_to_b2 (nf : Nat) (next : List (List Int)) (r : Int × Unit) (t16 : Int) (g0 : List Int → Int → Option (List Int × Unit)) (g2 : List Int → Int → Option (List Int × Unit)) (out2 : List Int) (t23 : Int) : Option (List Int × Unit) :=
  bif decide (t23 < (↑(List.length (next.getD t16.toNat [])) : Int)) then
    bif inb t23 (List.length (next.getD t16.toNat [])) then
      bif decide (0 ≤ t16) then
        bif IntKind.u32.wrap (↑(BitVec.ofInt IntKind.u32.bits (shrI IntKind.u32 r.fst t16) &&& BitVec.ofInt IntKind.u32.bits 1).toNat : Int) == 1 then
          bif inb (List.getD (next.getD t16.toNat []) t23.toNat 0) out2.length then
            bif decide (0 ≤ t16) then
              bif inb (List.getD (next.getD t16.toNat []) t23.toNat 0) out2.length then
                g2 (out2.set (Int.toNat (List.getD (next.getD t16.toNat []) t23.toNat 0)) (IntKind.u32.wrap (↑(BitVec.ofInt IntKind.u32.bits (out2.getD (Int.toNat (List.getD (next.getD t16.toNat []) t23.toNat 0)) 0) ||| BitVec.ofInt IntKind.u32.bits (shlI IntKind.u32 1 t16)).toNat : Int))) (IntKind.i64.wrap (t23 + 1))
              else
                none
            else
              none
          else
            none
        else
          g2 out2 (IntKind.i64.wrap (t23 + 1))
      else
        none
    else
      none
  else
    g0 out2 (IntKind.i64.wrap (t16 + 1))
def loop_to_p (nf : Nat) (l0 : List (List Int) → Int × Unit → List Int → Int → Option (List Int × Unit)) (next : List (List Int)) : Option (List Int × Unit) :=
  Option.bind (way_From_f nf next 0 (-1)) fun r =>
  bif decide (0 ≤ (↑next.length : Int)) && decide ((↑next.length : Int) ≤ (↑next.length : Int)) && decide ((↑next.length : Int) ≤ (↑lim : Int)) then
    l0 next r (List.replicate (↑next.length : Int).toNat 0) 0
  else
    none
def loop_to_l2 (nf : Nat) (next : List (List Int)) (r : Int × Unit) (t16 : Int) (g0 : List Int → Int → Option (List Int × Unit)) : Nat → List Int → Int → Option (List Int × Unit)
  | 0, _, _ => none
  | fu + 1, out2, t23 => loop_to_b2 nf  next r t16 g0 (loop_to_l2 nf next r t16 g0 fu) out2 t23
def loop_to_l0 (nf : Nat) (next : List (List Int)) (r : Int × Unit) : Nat → List Int → Int → Option (List Int × Unit)
  | 0, _, _ => none
  | fu + 1, out, t16 => loop_to_b0 nf (fun _ _ p2 v0 v1 => loop_to_l2 nf next r p2 (fun out t16 => loop_to_l0 nf next r  fu out t16) nf v0 v1) next r  (loop_to_l0 nf next r  fu) out t16
def loop_to_f (nf : Nat) (next : List (List Int)) : Option (List Int × Unit) := loop_to_p nf (fun p0 p1 v0 v1 => loop_to_l0 nf p0 p1 nf v0 v1) next
noncomputable def loop_to_L0 (nf : Nat) : LC (List Int × Unit) := theL (findL tab (loop_to_phi nf) (fun _ F => iter nf F) loop_to_keep 0 0 (codeOf Try.f68) (fin tab [((Ty.int IntKind.u32).sl, Md.own false (Md.bor false false))] (resL (none) Try.f68)) (fun _ _ => none) (fin tab [((Ty.int IntKind.u32).sl, Md.own false (Md.bor false false))] (resL (none) Try.f68)))
def loop_to_m0 (next : List (List Int)) (r : Int × Unit) (out : List Int) (t16 : Int) : St := ⟨fresh, [(0, AV.v (Ty.int IntKind.i64).sl.sl (Md.bor true false) next), (3, AV.v (Ty.int IntKind.u32) (Md.bor false true) r.fst), (4, AV.ow 500004 (Ty.int IntKind.u32).sl (Md.own false (Md.bor false false)) out), (13, AV.dead), (14, AV.v (Ty.int IntKind.i64).sl.sl (Md.bor true false) next), (15, AV.v (Ty.int IntKind.i64) (Md.bor false true) (↑next.length : Int)), (16, AV.v (Ty.int IntKind.i64) (Md.bor false true) t16)]⟩
noncomputable def loop_to_L2 (nf : Nat) (G0 : St → Option (List Int × Unit)) : LC (List Int × Unit) := theL (findL tab (loop_to_phi nf) (fun _ F => iter nf F) loop_to_keep 2 0 (loop_to_L0 nf ).c (fun st => norm (loop_to_keep 0) st G0) (loop_to_L0 nf ).Kx (loop_to_L0 nf ).Kr)
def loop_to_m2 (next : List (List Int)) (r : Int × Unit) (t16 : Int) (out2 : List Int) (t23 : Int) : St := ⟨fresh, [(0, AV.v (Ty.int IntKind.i64).sl.sl (Md.bor true false) next), (3, AV.v (Ty.int IntKind.u32) (Md.bor false true) r.fst), (4, AV.ow 500004 (Ty.int IntKind.u32).sl (Md.own false (Md.bor false false)) out2), (5, AV.v (Ty.int IntKind.i64) (Md.bor false true) t16), (6, AV.v (Ty.int IntKind.i64).sl (Md.bor true false) (next.getD t16.toNat [])), (13, AV.dead), (14, AV.v (Ty.int IntKind.i64).sl.sl (Md.bor true false) next), (15, AV.v (Ty.int IntKind.i64) (Md.bor false true) (↑next.length : Int)), (16, AV.v (Ty.int IntKind.i64) (Md.bor false true) t16), (19, AV.rop (Ty.int IntKind.i64).sl (Md.bor true false) (next.getD t16.toNat [])), (20, AV.v (Ty.int IntKind.i64).sl (Md.bor true false) (next.getD t16.toNat [])), (21, AV.v (Ty.int IntKind.i64).sl (Md.bor true false) (next.getD t16.toNat [])), (22, AV.v (Ty.int IntKind.i64) (Md.bor false true) (↑(List.length (next.getD t16.toNat [])) : Int)), (23, AV.v (Ty.int IntKind.i64) (Md.bor false true) t23)]⟩
theorem loop_to_h2 (nf : Nat) (G0 : St → Option (List Int × Unit)) (next : List (List Int)) (r : Int × Unit) (t16 : Int) (fu : Nat) (out2 : List Int) (t23 : Int) : iter (fu + 1) (LC.F tab (loop_to_phi nf) (fun _ F => iter nf F) loop_to_keep 2 (loop_to_L2 nf G0)) (loop_to_m2 next r t16 out2 t23) = loop_to_b2 nf  next r t16 (fun out t16 => G0 (loop_to_m0 next r out t16)) (fun out2 t23 => iter fu (LC.F tab (loop_to_phi nf) (fun _ F => iter nf F) loop_to_keep 2 (loop_to_L2 nf G0)) (loop_to_m2 next r t16 out2 t23)) out2 t23 := by kernel_rfl
theorem loop_to_e2 (nf : Nat) (G0 : St → Option (List Int × Unit)) (next : List (List Int)) (r : Int × Unit) (t16 : Int) : ∀ (fu : Nat) (out2 : List Int) (t23 : Int), iter fu (LC.F tab (loop_to_phi nf) (fun _ F => iter nf F) loop_to_keep 2 (loop_to_L2 nf G0)) (loop_to_m2 next r t16 out2 t23) = loop_to_l2 nf next r t16 (fun out t16 => G0 (loop_to_m0 next r out t16)) fu out2 t23 := by
  intro fu
  induction fu with
  | zero => intros; rfl
  | succ fu ih =>
    intro out2 t23
    rw [loop_to_h2 nf G0 next r t16 fu out2 t23]
    simp only [ih]
    rfl
theorem loop_to_h0 (nf : Nat)  (next : List (List Int)) (r : Int × Unit) (fu : Nat) (out : List Int) (t16 : Int) : iter (fu + 1) (LC.F tab (loop_to_phi nf) (fun _ F => iter nf F) loop_to_keep 0 (loop_to_L0 nf )) (loop_to_m0 next r out t16) = loop_to_b0 nf (fun _ _ p2 v0 v1 => iter nf (LC.F tab (loop_to_phi nf) (fun _ F => iter nf F) loop_to_keep 2 (loop_to_L2 nf (iter fu (LC.F tab (loop_to_phi nf) (fun _ F => iter nf F) loop_to_keep 0 (loop_to_L0 nf ))))) (loop_to_m2 next r p2 v0 v1)) next r  (fun out t16 => iter fu (LC.F tab (loop_to_phi nf) (fun _ F => iter nf F) loop_to_keep 0 (loop_to_L0 nf )) (loop_to_m0 next r out t16)) out t16 := by kernel_rfl
theorem loop_to_e0 (nf : Nat)  (next : List (List Int)) (r : Int × Unit) : ∀ (fu : Nat) (out : List Int) (t16 : Int), iter fu (LC.F tab (loop_to_phi nf) (fun _ F => iter nf F) loop_to_keep 0 (loop_to_L0 nf )) (loop_to_m0 next r out t16) = loop_to_l0 nf next r  fu out t16 := by
  intro fu
  induction fu with
  | zero => intros; rfl
  | succ fu ih =>
    intro out t16
    rw [loop_to_h0 nf  next r fu out t16]
    simp only [ih, loop_to_e2]
    rfl
theorem loop_to_eq (nf : Nat) (next : List (List Int)) : runF tab (loop_to_phi nf) loop_to_keep nf [PT.val (Ty.int IntKind.i64).sl.sl (Md.bor true false)] [((Ty.int IntKind.u32).sl, Md.own false (Md.bor false false))] (resL (none) Try.f68) (codeOf Try.f68) ⟨next, ()⟩ = loop_to_f nf next := by
  have h : runF tab (loop_to_phi nf) loop_to_keep nf [PT.val (Ty.int IntKind.i64).sl.sl (Md.bor true false)] [((Ty.int IntKind.u32).sl, Md.own false (Md.bor false false))] (resL (none) Try.f68) (codeOf Try.f68) ⟨next, ()⟩ = loop_to_p nf (fun p0 p1 v0 v1 => iter nf (LC.F tab (loop_to_phi nf) (fun _ F => iter nf F) loop_to_keep 0 (loop_to_L0 nf)) (loop_to_m0 p0 p1 v0 v1)) next := by kernel_rfl
  rw [h]
  simp only [loop_to_e0]
  rfl
def loop_to_F (nf : Nat) (x : denPs [.val (.sl (.sl (.int .i64))) (.bor true false)]) : Option (denL [(.sl (.int .u32), .own false (.bor false false))]) := loop_to_f nf x.1
def loop_to_C (nf : Nat) : Contract := ⟨[.val (.sl (.sl (.int .i64))) (.bor true false)], [(.sl (.int .u32), .own false (.bor false false))], loop_to_F nf, none⟩
theorem loop_to_ok : FnOK Try.prog 68 := ⟨Try.f68, codeOf Try.f68, Try.func68, by kernel_rfl, by kernel_rfl⟩
theorem loop_to_holds (nf : Nat) : Contract.Holds Try.prog 68 (loop_to_C nf) :=
  fn_holds (Φ := loop_to_phi nf) (keep := loop_to_keep) (n := nf) ⟨tabs.1, tabs.2, (ctx_cons way_From_ok (way_From_holds nf) ctx_nil), mixed⟩ (fn := Try.f68) ⟨Try.func68, by kernel_rfl, by kernel_rfl, by kernel_rfl⟩ (fun x => loop_to_eq nf x.1)

/-! codemason loop.Loops -/
def loop_Loops_phi (nf : Nat) : Nat → Option Contract := lookC [(31, way_Back_C nf), (65, rule_Rules_C nf), (68, loop_to_C nf)]
def loop_Loops_keep : Nat → List Nat := lookK [(4, [4, 6, 7, 8, 12, 13, 15, 18, 20, 21, 27, 29, 32, 33, 34, 35, 58, 59, 60]), (2, [4, 6, 7, 8, 12, 13, 14, 18, 20, 21, 27, 29, 32, 33, 34, 35]), (0, [4, 6, 7, 8, 18, 20, 21, 27, 29, 32, 33, 34, 35])]
def loop_Loops_b0 (nf : Nat) (l2 : List (Int × Int × Unit) → Int → List (Int × Int × Unit) × Int × Unit → List (Int × Int × Unit) → List Int → List Int → List Int → Int → Bool → Option (List Int × Int × Unit)) (r : List (Int × Int × Unit) × Int × Unit) (g0 : List (Int × Int × Unit) → List Int → List Int → List Int → Int → Option (List Int × Int × Unit)) (back : List (Int × Int × Unit)) (rules : List Int) (from' : List Int) (out : List Int) (t35 : Int) : Option (List Int × Int × Unit) :=
  bif decide (t35 < (↑(List.length r.fst) : Int)) then
    bif inb t35 back.length then
      bif inb (back.getD t35.toNat (0, 0, ())).fst rules.length then
        bif decide (0 ≤ (back.getD t35.toNat (0, 0, ())).snd.fst) then
          bif IntKind.u32.wrap (↑(BitVec.ofInt IntKind.u32.bits (shrI IntKind.u32 (rules.getD (Int.toNat (back.getD t35.toNat (0, 0, ())).fst) 0) (back.getD t35.toNat (0, 0, ())).snd.fst) &&& BitVec.ofInt IntKind.u32.bits 1).toNat : Int) == 0 then
            g0 back rules from' out (IntKind.i64.wrap (t35 + 1))
          else
            bif decide (0 ≤ (back.getD t35.toNat (0, 0, ())).snd.fst) then
              bif decide (0 ≤ (back.getD t35.toNat (0, 0, ())).fst) then
                l2 back t35 r back rules from' out (IntKind.u32.wrap (↑(BitVec.ofInt IntKind.u32.bits (shlI IntKind.u32 1 (back.getD t35.toNat (0, 0, ())).snd.fst) ||| BitVec.ofInt IntKind.u32.bits (shlI IntKind.u32 1 (back.getD t35.toNat (0, 0, ())).fst)).toNat : Int)) true
              else
                none
            else
              none
        else
          none
      else
        none
    else
      none
  else
    some ((out, 0, ()))
def loop_Loops_b2 (nf : Nat) (l4 : List (Int × Int × Unit) → Int → Int → List (Int × Int × Unit) × Int × Unit → List Int → List (Int × Int × Unit) → List Int → List Int → List Int → Int → Int → Option (List Int × Int × Unit)) (back : List (Int × Int × Unit)) (t35 : Int) (r : List (Int × Int × Unit) × Int × Unit) (g0 : List (Int × Int × Unit) → List Int → List Int → List Int → Int → Option (List Int × Int × Unit)) (g2 : List (Int × Int × Unit) → List Int → List Int → List Int → Int → Bool → Option (List Int × Int × Unit)) (back2 : List (Int × Int × Unit)) (rules2 : List Int) (from'2 : List Int) (out2 : List Int) (set' : Int) (more : Bool) : Option (List Int × Int × Unit) :=
  bif more then
    l4 back t35 set' r from'2 back2 rules2 from'2 out2 set' 0
  else
    bif inb (back.getD t35.toNat (0, 0, ())).snd.fst out2.length then
      bif inb (back.getD t35.toNat (0, 0, ())).snd.fst out2.length then
        g0 back2 rules2 from'2 (out2.set (Int.toNat (back.getD t35.toNat (0, 0, ())).snd.fst) (IntKind.u32.wrap (↑(BitVec.ofInt IntKind.u32.bits (out2.getD (Int.toNat (back.getD t35.toNat (0, 0, ())).snd.fst) 0) ||| BitVec.ofInt IntKind.u32.bits set').toNat : Int))) (IntKind.i64.wrap (t35 + 1))
      else
        none
    else
      none
def loop_Loops_b4 (nf : Nat) (back : List (Int × Int × Unit)) (t35 : Int) (set' : Int) (r : List (Int × Int × Unit) × Int × Unit) (from'2 : List Int) (g2 : List (Int × Int × Unit) → List Int → List Int → List Int → Int → Bool → Option (List Int × Int × Unit)) (g0 : List (Int × Int × Unit) → List Int → List Int → List Int → Int → Option (List Int × Int × Unit)) (g4 : List (Int × Int × Unit) → List Int → List Int → List Int → Int → Int → Option (List Int × Int × Unit)) (back3 : List (Int × Int × Unit)) (rules3 : List Int) (from'3 : List Int) (out3 : List Int) (set'2 : Int) (t60 : Int) : Option (List Int × Int × Unit) :=
  bif decide (t60 < (↑from'2.length : Int)) then
    bif inb t60 from'3.length then
      bif t60 != (back.getD t35.toNat (0, 0, ())).snd.fst then
        bif decide (0 ≤ t60) then
          bif IntKind.u32.wrap (↑(BitVec.ofInt IntKind.u32.bits (shrI IntKind.u32 set'2 t60) &&& BitVec.ofInt IntKind.u32.bits 1).toNat : Int) == 1 then
            g4 back3 rules3 from'3 out3 (IntKind.u32.wrap (↑(BitVec.ofInt IntKind.u32.bits set'2 ||| BitVec.ofInt IntKind.u32.bits (from'3.getD t60.toNat 0)).toNat : Int)) (IntKind.i64.wrap (t60 + 1))
          else
            g4 back3 rules3 from'3 out3 set'2 (IntKind.i64.wrap (t60 + 1))
        else
          none
      else
        g4 back3 rules3 from'3 out3 set'2 (IntKind.i64.wrap (t60 + 1))
    else
      none
  else
    g2 back3 rules3 from'3 out3 set'2 (set'2 != set')
def loop_Loops_p (nf : Nat) (l0 : List (Int × Int × Unit) × Int × Unit → List (Int × Int × Unit) → List Int → List Int → List Int → Int → Option (List Int × Int × Unit)) (next : List (List Int)) : Option (List Int × Int × Unit) :=
  Option.bind (way_Back_f nf next) fun r =>
  bif r.snd.fst != 0 then
    some (([], r.snd.fst, ()))
  else
    Option.bind (rule_Rules_f nf next) fun r2 =>
    Option.bind (loop_to_f nf next) fun r3 =>
    bif decide (0 ≤ (↑next.length : Int)) && decide ((↑next.length : Int) ≤ (↑next.length : Int)) && decide ((↑next.length : Int) ≤ (↑lim : Int)) then
      l0 r r.fst r2.fst r3.fst (List.replicate (↑next.length : Int).toNat 0) 0
    else
      none
def loop_Loops_l4 (nf : Nat) (back : List (Int × Int × Unit)) (t35 : Int) (set' : Int) (r : List (Int × Int × Unit) × Int × Unit) (from'2 : List Int) (g2 : List (Int × Int × Unit) → List Int → List Int → List Int → Int → Bool → Option (List Int × Int × Unit)) (g0 : List (Int × Int × Unit) → List Int → List Int → List Int → Int → Option (List Int × Int × Unit)) : Nat → List (Int × Int × Unit) → List Int → List Int → List Int → Int → Int → Option (List Int × Int × Unit)
  | 0, _, _, _, _, _, _ => none
  | fu + 1, back3, rules3, from'3, out3, set'2, t60 => loop_Loops_b4 nf  back t35 set' r from'2 g2 g0 (loop_Loops_l4 nf back t35 set' r from'2 g2 g0 fu) back3 rules3 from'3 out3 set'2 t60
def loop_Loops_l2 (nf : Nat) (back : List (Int × Int × Unit)) (t35 : Int) (r : List (Int × Int × Unit) × Int × Unit) (g0 : List (Int × Int × Unit) → List Int → List Int → List Int → Int → Option (List Int × Int × Unit)) : Nat → List (Int × Int × Unit) → List Int → List Int → List Int → Int → Bool → Option (List Int × Int × Unit)
  | 0, _, _, _, _, _, _ => none
  | fu + 1, back2, rules2, from'2, out2, set', more => loop_Loops_b2 nf (fun _ _ p2 _ p4 v0 v1 v2 v3 v4 v5 => loop_Loops_l4 nf back t35 p2 r p4 (fun back2 rules2 from'2 out2 set' more => loop_Loops_l2 nf back t35 r g0 fu back2 rules2 from'2 out2 set' more) g0 nf v0 v1 v2 v3 v4 v5) back t35 r g0 (loop_Loops_l2 nf back t35 r g0 fu) back2 rules2 from'2 out2 set' more
def loop_Loops_l0 (nf : Nat) (r : List (Int × Int × Unit) × Int × Unit) : Nat → List (Int × Int × Unit) → List Int → List Int → List Int → Int → Option (List Int × Int × Unit)
  | 0, _, _, _, _, _ => none
  | fu + 1, back, rules, from', out, t35 => loop_Loops_b0 nf (fun p0 p1 _ v0 v1 v2 v3 v4 v5 => loop_Loops_l2 nf p0 p1 r (fun back rules from' out t35 => loop_Loops_l0 nf r  fu back rules from' out t35) nf v0 v1 v2 v3 v4 v5) r  (loop_Loops_l0 nf r  fu) back rules from' out t35
def loop_Loops_f (nf : Nat) (next : List (List Int)) : Option (List Int × Int × Unit) := loop_Loops_p nf (fun p0 v0 v1 v2 v3 v4 => loop_Loops_l0 nf p0 nf v0 v1 v2 v3 v4) next
noncomputable def loop_Loops_L0 (nf : Nat) : LC (List Int × Int × Unit) := theL (findL tab (loop_Loops_phi nf) (fun _ F => iter nf F) loop_Loops_keep 0 0 (codeOf Try.f40) (fin tab [((Ty.int IntKind.u32).sl, Md.own false (Md.bor false false)), (Ty.int IntKind.i64, Md.bor false true)] (resL (none) Try.f40)) (fun _ _ => none) (fin tab [((Ty.int IntKind.u32).sl, Md.own false (Md.bor false false)), (Ty.int IntKind.i64, Md.bor false true)] (resL (none) Try.f40)))
def loop_Loops_m0 (r : List (Int × Int × Unit) × Int × Unit) (back : List (Int × Int × Unit)) (rules : List Int) (from' : List Int) (out : List Int) (t35 : Int) : St := ⟨fresh, [(4, AV.ow 500004 ((Ty.int IntKind.i64).pair ((Ty.int IntKind.i64).pair Ty.unit)).sl (Md.own false (Md.bor false false)) back), (6, AV.ow 500006 (Ty.int IntKind.u32).sl (Md.own false (Md.bor false false)) rules), (7, AV.ow 500007 (Ty.int IntKind.u32).sl (Md.own false (Md.bor false false)) from'), (8, AV.ow 500008 (Ty.int IntKind.u32).sl (Md.own false (Md.bor false false)) out), (18, AV.dead), (20, AV.dead), (21, AV.dead), (27, AV.dead), (29, AV.dead), (32, AV.dead), (33, AV.al 4 500004 []), (34, AV.v (Ty.int IntKind.i64) (Md.bor false true) (↑(List.length r.fst) : Int)), (35, AV.v (Ty.int IntKind.i64) (Md.bor false true) t35)]⟩
noncomputable def loop_Loops_L2 (nf : Nat) (G0 : St → Option (List Int × Int × Unit)) : LC (List Int × Int × Unit) := theL (findL tab (loop_Loops_phi nf) (fun _ F => iter nf F) loop_Loops_keep 2 0 (loop_Loops_L0 nf ).c (fun st => norm (loop_Loops_keep 0) st G0) (loop_Loops_L0 nf ).Kx (loop_Loops_L0 nf ).Kr)
def loop_Loops_m2 (back : List (Int × Int × Unit)) (t35 : Int) (r : List (Int × Int × Unit) × Int × Unit) (back2 : List (Int × Int × Unit)) (rules2 : List Int) (from'2 : List Int) (out2 : List Int) (set' : Int) (more : Bool) : St := ⟨fresh, [(4, AV.ow 500004 ((Ty.int IntKind.i64).pair ((Ty.int IntKind.i64).pair Ty.unit)).sl (Md.own false (Md.bor false false)) back2), (6, AV.ow 500006 (Ty.int IntKind.u32).sl (Md.own false (Md.bor false false)) rules2), (7, AV.ow 500007 (Ty.int IntKind.u32).sl (Md.own false (Md.bor false false)) from'2), (8, AV.ow 500008 (Ty.int IntKind.u32).sl (Md.own false (Md.bor false false)) out2), (12, AV.v (Ty.int IntKind.i64) (Md.bor false true) (back.getD t35.toNat (0, 0, ())).snd.fst), (13, AV.v (Ty.int IntKind.u32) (Md.bor false true) set'), (14, AV.v Ty.bool (Md.bor false true) more), (18, AV.dead), (20, AV.dead), (21, AV.dead), (27, AV.dead), (29, AV.dead), (32, AV.dead), (33, AV.al 4 500004 []), (34, AV.v (Ty.int IntKind.i64) (Md.bor false true) (↑(List.length r.fst) : Int)), (35, AV.v (Ty.int IntKind.i64) (Md.bor false true) t35)]⟩
noncomputable def loop_Loops_L4 (nf : Nat) (G0 : St → Option (List Int × Int × Unit)) (G2 : St → Option (List Int × Int × Unit)) : LC (List Int × Int × Unit) := theL (findL tab (loop_Loops_phi nf) (fun _ F => iter nf F) loop_Loops_keep 4 2 (loop_Loops_L2 nf G0).c (fun st => norm (loop_Loops_keep 2) st G2) (loop_Loops_L2 nf G0).Kx (loop_Loops_L2 nf G0).Kr)
def loop_Loops_m4 (back : List (Int × Int × Unit)) (t35 : Int) (set' : Int) (r : List (Int × Int × Unit) × Int × Unit) (from'2 : List Int) (back3 : List (Int × Int × Unit)) (rules3 : List Int) (from'3 : List Int) (out3 : List Int) (set'2 : Int) (t60 : Int) : St := ⟨fresh, [(4, AV.ow 500004 ((Ty.int IntKind.i64).pair ((Ty.int IntKind.i64).pair Ty.unit)).sl (Md.own false (Md.bor false false)) back3), (6, AV.ow 500006 (Ty.int IntKind.u32).sl (Md.own false (Md.bor false false)) rules3), (7, AV.ow 500007 (Ty.int IntKind.u32).sl (Md.own false (Md.bor false false)) from'3), (8, AV.ow 500008 (Ty.int IntKind.u32).sl (Md.own false (Md.bor false false)) out3), (12, AV.v (Ty.int IntKind.i64) (Md.bor false true) (back.getD t35.toNat (0, 0, ())).snd.fst), (13, AV.v (Ty.int IntKind.u32) (Md.bor false true) set'2), (15, AV.v (Ty.int IntKind.u32) (Md.bor false true) set'), (18, AV.dead), (20, AV.dead), (21, AV.dead), (27, AV.dead), (29, AV.dead), (32, AV.dead), (33, AV.al 4 500004 []), (34, AV.v (Ty.int IntKind.i64) (Md.bor false true) (↑(List.length r.fst) : Int)), (35, AV.v (Ty.int IntKind.i64) (Md.bor false true) t35), (58, AV.al 7 500007 []), (59, AV.v (Ty.int IntKind.i64) (Md.bor false true) (↑from'2.length : Int)), (60, AV.v (Ty.int IntKind.i64) (Md.bor false true) t60)]⟩
theorem loop_Loops_h4 (nf : Nat) (G0 : St → Option (List Int × Int × Unit)) (G2 : St → Option (List Int × Int × Unit)) (back : List (Int × Int × Unit)) (t35 : Int) (set' : Int) (r : List (Int × Int × Unit) × Int × Unit) (from'2 : List Int) (fu : Nat) (back3 : List (Int × Int × Unit)) (rules3 : List Int) (from'3 : List Int) (out3 : List Int) (set'2 : Int) (t60 : Int) : iter (fu + 1) (LC.F tab (loop_Loops_phi nf) (fun _ F => iter nf F) loop_Loops_keep 4 (loop_Loops_L4 nf G0 G2)) (loop_Loops_m4 back t35 set' r from'2 back3 rules3 from'3 out3 set'2 t60) = loop_Loops_b4 nf  back t35 set' r from'2 (fun back2 rules2 from'2 out2 set' more => G2 (loop_Loops_m2 back t35 r back2 rules2 from'2 out2 set' more)) (fun back rules from' out t35 => G0 (loop_Loops_m0 r back rules from' out t35)) (fun back3 rules3 from'3 out3 set'2 t60 => iter fu (LC.F tab (loop_Loops_phi nf) (fun _ F => iter nf F) loop_Loops_keep 4 (loop_Loops_L4 nf G0 G2)) (loop_Loops_m4 back t35 set' r from'2 back3 rules3 from'3 out3 set'2 t60)) back3 rules3 from'3 out3 set'2 t60 := by kernel_rfl
theorem loop_Loops_e4 (nf : Nat) (G0 : St → Option (List Int × Int × Unit)) (G2 : St → Option (List Int × Int × Unit)) (back : List (Int × Int × Unit)) (t35 : Int) (set' : Int) (r : List (Int × Int × Unit) × Int × Unit) (from'2 : List Int) : ∀ (fu : Nat) (back3 : List (Int × Int × Unit)) (rules3 : List Int) (from'3 : List Int) (out3 : List Int) (set'2 : Int) (t60 : Int), iter fu (LC.F tab (loop_Loops_phi nf) (fun _ F => iter nf F) loop_Loops_keep 4 (loop_Loops_L4 nf G0 G2)) (loop_Loops_m4 back t35 set' r from'2 back3 rules3 from'3 out3 set'2 t60) = loop_Loops_l4 nf back t35 set' r from'2 (fun back2 rules2 from'2 out2 set' more => G2 (loop_Loops_m2 back t35 r back2 rules2 from'2 out2 set' more)) (fun back rules from' out t35 => G0 (loop_Loops_m0 r back rules from' out t35)) fu back3 rules3 from'3 out3 set'2 t60 := by
  intro fu
  induction fu with
  | zero => intros; rfl
  | succ fu ih =>
    intro back3 rules3 from'3 out3 set'2 t60
    rw [loop_Loops_h4 nf G0 G2 back t35 set' r from'2 fu back3 rules3 from'3 out3 set'2 t60]
    simp only [ih]
    rfl
theorem loop_Loops_h2 (nf : Nat) (G0 : St → Option (List Int × Int × Unit)) (back : List (Int × Int × Unit)) (t35 : Int) (r : List (Int × Int × Unit) × Int × Unit) (fu : Nat) (back2 : List (Int × Int × Unit)) (rules2 : List Int) (from'2 : List Int) (out2 : List Int) (set' : Int) (more : Bool) : iter (fu + 1) (LC.F tab (loop_Loops_phi nf) (fun _ F => iter nf F) loop_Loops_keep 2 (loop_Loops_L2 nf G0)) (loop_Loops_m2 back t35 r back2 rules2 from'2 out2 set' more) = loop_Loops_b2 nf (fun _ _ p2 _ p4 v0 v1 v2 v3 v4 v5 => iter nf (LC.F tab (loop_Loops_phi nf) (fun _ F => iter nf F) loop_Loops_keep 4 (loop_Loops_L4 nf G0 (iter fu (LC.F tab (loop_Loops_phi nf) (fun _ F => iter nf F) loop_Loops_keep 2 (loop_Loops_L2 nf G0))))) (loop_Loops_m4 back t35 p2 r p4 v0 v1 v2 v3 v4 v5)) back t35 r (fun back rules from' out t35 => G0 (loop_Loops_m0 r back rules from' out t35)) (fun back2 rules2 from'2 out2 set' more => iter fu (LC.F tab (loop_Loops_phi nf) (fun _ F => iter nf F) loop_Loops_keep 2 (loop_Loops_L2 nf G0)) (loop_Loops_m2 back t35 r back2 rules2 from'2 out2 set' more)) back2 rules2 from'2 out2 set' more := by kernel_rfl
theorem loop_Loops_e2 (nf : Nat) (G0 : St → Option (List Int × Int × Unit)) (back : List (Int × Int × Unit)) (t35 : Int) (r : List (Int × Int × Unit) × Int × Unit) : ∀ (fu : Nat) (back2 : List (Int × Int × Unit)) (rules2 : List Int) (from'2 : List Int) (out2 : List Int) (set' : Int) (more : Bool), iter fu (LC.F tab (loop_Loops_phi nf) (fun _ F => iter nf F) loop_Loops_keep 2 (loop_Loops_L2 nf G0)) (loop_Loops_m2 back t35 r back2 rules2 from'2 out2 set' more) = loop_Loops_l2 nf back t35 r (fun back rules from' out t35 => G0 (loop_Loops_m0 r back rules from' out t35)) fu back2 rules2 from'2 out2 set' more := by
  intro fu
  induction fu with
  | zero => intros; rfl
  | succ fu ih =>
    intro back2 rules2 from'2 out2 set' more
    rw [loop_Loops_h2 nf G0 back t35 r fu back2 rules2 from'2 out2 set' more]
    simp only [ih, loop_Loops_e4]
    rfl
theorem loop_Loops_h0 (nf : Nat)  (r : List (Int × Int × Unit) × Int × Unit) (fu : Nat) (back : List (Int × Int × Unit)) (rules : List Int) (from' : List Int) (out : List Int) (t35 : Int) : iter (fu + 1) (LC.F tab (loop_Loops_phi nf) (fun _ F => iter nf F) loop_Loops_keep 0 (loop_Loops_L0 nf )) (loop_Loops_m0 r back rules from' out t35) = loop_Loops_b0 nf (fun p0 p1 _ v0 v1 v2 v3 v4 v5 => iter nf (LC.F tab (loop_Loops_phi nf) (fun _ F => iter nf F) loop_Loops_keep 2 (loop_Loops_L2 nf (iter fu (LC.F tab (loop_Loops_phi nf) (fun _ F => iter nf F) loop_Loops_keep 0 (loop_Loops_L0 nf ))))) (loop_Loops_m2 p0 p1 r v0 v1 v2 v3 v4 v5)) r  (fun back rules from' out t35 => iter fu (LC.F tab (loop_Loops_phi nf) (fun _ F => iter nf F) loop_Loops_keep 0 (loop_Loops_L0 nf )) (loop_Loops_m0 r back rules from' out t35)) back rules from' out t35 := by kernel_rfl
theorem loop_Loops_e0 (nf : Nat)  (r : List (Int × Int × Unit) × Int × Unit) : ∀ (fu : Nat) (back : List (Int × Int × Unit)) (rules : List Int) (from' : List Int) (out : List Int) (t35 : Int), iter fu (LC.F tab (loop_Loops_phi nf) (fun _ F => iter nf F) loop_Loops_keep 0 (loop_Loops_L0 nf )) (loop_Loops_m0 r back rules from' out t35) = loop_Loops_l0 nf r  fu back rules from' out t35 := by
  intro fu
  induction fu with
  | zero => intros; rfl
  | succ fu ih =>
    intro back rules from' out t35
    rw [loop_Loops_h0 nf  r fu back rules from' out t35]
    simp only [ih, loop_Loops_e2]
    rfl
theorem loop_Loops_eq (nf : Nat) (next : List (List Int)) : runF tab (loop_Loops_phi nf) loop_Loops_keep nf [PT.val (Ty.int IntKind.i64).sl.sl (Md.bor true false)] [((Ty.int IntKind.u32).sl, Md.own false (Md.bor false false)), (Ty.int IntKind.i64, Md.bor false true)] (resL (none) Try.f40) (codeOf Try.f40) ⟨next, ()⟩ = loop_Loops_f nf next := by
  have h : runF tab (loop_Loops_phi nf) loop_Loops_keep nf [PT.val (Ty.int IntKind.i64).sl.sl (Md.bor true false)] [((Ty.int IntKind.u32).sl, Md.own false (Md.bor false false)), (Ty.int IntKind.i64, Md.bor false true)] (resL (none) Try.f40) (codeOf Try.f40) ⟨next, ()⟩ = loop_Loops_p nf (fun p0 v0 v1 v2 v3 v4 => iter nf (LC.F tab (loop_Loops_phi nf) (fun _ F => iter nf F) loop_Loops_keep 0 (loop_Loops_L0 nf)) (loop_Loops_m0 p0 v0 v1 v2 v3 v4)) next := by kernel_rfl
  rw [h]
  simp only [loop_Loops_e0]
  rfl
def loop_Loops_F (nf : Nat) (x : denPs [.val (.sl (.sl (.int .i64))) (.bor true false)]) : Option (denL [(.sl (.int .u32), .own false (.bor false false)), (.int .i64, .bor false true)]) := loop_Loops_f nf x.1
def loop_Loops_C (nf : Nat) : Contract := ⟨[.val (.sl (.sl (.int .i64))) (.bor true false)], [(.sl (.int .u32), .own false (.bor false false)), (.int .i64, .bor false true)], loop_Loops_F nf, none⟩
theorem loop_Loops_ok : FnOK Try.prog 40 := ⟨Try.f40, codeOf Try.f40, Try.func40, by kernel_rfl, by kernel_rfl⟩
theorem loop_Loops_holds (nf : Nat) : Contract.Holds Try.prog 40 (loop_Loops_C nf) :=
  fn_holds (Φ := loop_Loops_phi nf) (keep := loop_Loops_keep) (n := nf) ⟨tabs.1, tabs.2, (ctx_cons way_Back_ok (way_Back_holds nf) (ctx_cons rule_Rules_ok (rule_Rules_holds nf) (ctx_cons loop_to_ok (loop_to_holds nf) ctx_nil))), mixed⟩ (fn := Try.f40) ⟨Try.func40, by kernel_rfl, by kernel_rfl, by kernel_rfl⟩ (fun x => loop_Loops_eq nf x.1)

/-! codemason codemasonref.Loop -/
def ref_Loop_phi (nf : Nat) : Nat → Option Contract := lookC [(24, ref_Reach_C nf), (28, ref_Has_C nf), (33, ref_BackPairs_C nf), (35, ref_Rules_C nf)]
def ref_Loop_keep : Nat → List Nat := lookK [(2, [0, 1, 5, 7, 8, 10, 11, 12]), (0, [0, 1, 5, 10, 11, 12])]
def ref_Loop_b0 (nf : Nat) (l2 : List (List Int) → Int → List (Int × Int × Unit) × Unit → Int → Int → Int × Int × Unit → Int → List (Int × Int × Unit) → Option (Int × Unit)) (next : List (List Int)) (head : Int) (r : List (Int × Int × Unit) × Unit) (g0 : Int → List (Int × Int × Unit) → Int → Option (Int × Unit)) (s : Int) (t10 : List (Int × Int × Unit)) (t12 : Int) : Option (Int × Unit) :=
  bif decide (t12 < (↑(List.length r.fst) : Int)) then
    bif inb t12 t10.length then
      bif (t10.getD t12.toNat (0, 0, ())).snd.fst != head then
        g0 s t10 (IntKind.i64.wrap (t12 + 1))
      else
        Option.bind (ref_Rules_f nf next head ((t10.getD t12.toNat (0, 0, ())).fst)) fun r2 =>
        bif !r2.fst then
          g0 s t10 (IntKind.i64.wrap (t12 + 1))
        else
          bif decide (0 ≤ IntKind.u64.wrap head) then
            l2 next head r t12 (IntKind.u32.wrap (↑(BitVec.ofInt IntKind.u32.bits s ||| BitVec.ofInt IntKind.u32.bits (shlI IntKind.u32 1 (IntKind.u64.wrap head))).toNat : Int)) (t10.getD t12.toNat (0, 0, ())) 0 t10
          else
            none
    else
      none
  else
    some ((s, ()))
def ref_Loop_b2 (nf : Nat) (next : List (List Int)) (head : Int) (r : List (Int × Int × Unit) × Unit) (t12 : Int) (g0 : Int → List (Int × Int × Unit) → Int → Option (Int × Unit)) (g2 : Int → Int × Int × Unit → Int → List (Int × Int × Unit) → Option (Int × Unit)) (s2 : Int) (p : Int × Int × Unit) (i : Int) (t102 : List (Int × Int × Unit)) : Option (Int × Unit) :=
  bif decide (i < (↑next.length : Int)) then
    Option.bind (ref_Reach_f nf next 0 (-1)) fun r3 =>
    Option.bind (ref_Has_f nf r3.fst i) fun r4 =>
    bif r4.fst then
      Option.bind (ref_Reach_f nf next i head) fun r5 =>
      Option.bind (ref_Has_f nf r5.fst p.fst) fun r6 =>
      bif r6.fst then
        bif decide (0 ≤ IntKind.u64.wrap i) then
          g2 (IntKind.u32.wrap (↑(BitVec.ofInt IntKind.u32.bits s2 ||| BitVec.ofInt IntKind.u32.bits (shlI IntKind.u32 1 (IntKind.u64.wrap i))).toNat : Int)) p (IntKind.i64.wrap (i + 1)) t102
        else
          none
      else
        g2 s2 p (IntKind.i64.wrap (i + 1)) t102
    else
      g2 s2 p (IntKind.i64.wrap (i + 1)) t102
  else
    g0 s2 t102 (IntKind.i64.wrap (t12 + 1))
def ref_Loop_p (nf : Nat) (l0 : List (List Int) → Int → List (Int × Int × Unit) × Unit → Int → List (Int × Int × Unit) → Int → Option (Int × Unit)) (next : List (List Int)) (head : Int) : Option (Int × Unit) :=
  Option.bind (ref_BackPairs_f nf next) fun r =>
  l0 next head r 0 r.fst 0
def ref_Loop_l2 (nf : Nat) (next : List (List Int)) (head : Int) (r : List (Int × Int × Unit) × Unit) (t12 : Int) (g0 : Int → List (Int × Int × Unit) → Int → Option (Int × Unit)) : Nat → Int → Int × Int × Unit → Int → List (Int × Int × Unit) → Option (Int × Unit)
  | 0, _, _, _, _ => none
  | fu + 1, s2, p, i, t102 => ref_Loop_b2 nf  next head r t12 g0 (ref_Loop_l2 nf next head r t12 g0 fu) s2 p i t102
def ref_Loop_l0 (nf : Nat) (next : List (List Int)) (head : Int) (r : List (Int × Int × Unit) × Unit) : Nat → Int → List (Int × Int × Unit) → Int → Option (Int × Unit)
  | 0, _, _, _ => none
  | fu + 1, s, t10, t12 => ref_Loop_b0 nf (fun _ _ _ p3 v0 v1 v2 v3 => ref_Loop_l2 nf next head r p3 (fun s t10 t12 => ref_Loop_l0 nf next head r  fu s t10 t12) nf v0 v1 v2 v3) next head r  (ref_Loop_l0 nf next head r  fu) s t10 t12
def ref_Loop_f (nf : Nat) (next : List (List Int)) (head : Int) : Option (Int × Unit) := ref_Loop_p nf (fun p0 p1 p2 v0 v1 v2 => ref_Loop_l0 nf p0 p1 p2 nf v0 v1 v2) next head
noncomputable def ref_Loop_L0 (nf : Nat) : LC (Int × Unit) := theL (findL tab (ref_Loop_phi nf) (fun _ F => iter nf F) ref_Loop_keep 0 0 (codeOf Try.f41) (fin tab [(Ty.int IntKind.u32, Md.bor false true)] (resL (none) Try.f41)) (fun _ _ => none) (fin tab [(Ty.int IntKind.u32, Md.bor false true)] (resL (none) Try.f41)))
def ref_Loop_m0 (next : List (List Int)) (head : Int) (r : List (Int × Int × Unit) × Unit) (s : Int) (t10 : List (Int × Int × Unit)) (t12 : Int) : St := ⟨fresh, [(0, AV.v (Ty.int IntKind.i64).sl.sl (Md.bor true false) next), (1, AV.v (Ty.int IntKind.i64) (Md.bor false true) head), (5, AV.v (Ty.int IntKind.u32) (Md.bor false true) s), (10, AV.ow 500010 ((Ty.int IntKind.i64).pair ((Ty.int IntKind.i64).pair Ty.unit)).sl (Md.own false (Md.bor false false)) t10), (11, AV.v (Ty.int IntKind.i64) (Md.bor false true) (↑(List.length r.fst) : Int)), (12, AV.v (Ty.int IntKind.i64) (Md.bor false true) t12)]⟩
noncomputable def ref_Loop_L2 (nf : Nat) (G0 : St → Option (Int × Unit)) : LC (Int × Unit) := theL (findL tab (ref_Loop_phi nf) (fun _ F => iter nf F) ref_Loop_keep 2 0 (ref_Loop_L0 nf ).c (fun st => norm (ref_Loop_keep 0) st G0) (ref_Loop_L0 nf ).Kx (ref_Loop_L0 nf ).Kr)
def ref_Loop_m2 (next : List (List Int)) (head : Int) (r : List (Int × Int × Unit) × Unit) (t12 : Int) (s2 : Int) (p : Int × Int × Unit) (i : Int) (t102 : List (Int × Int × Unit)) : St := ⟨fresh, [(0, AV.v (Ty.int IntKind.i64).sl.sl (Md.bor true false) next), (1, AV.v (Ty.int IntKind.i64) (Md.bor false true) head), (5, AV.v (Ty.int IntKind.u32) (Md.bor false true) s2), (7, AV.box 7 500007 ((Ty.int IntKind.i64).pair ((Ty.int IntKind.i64).pair Ty.unit)) (Md.bor false false) p), (8, AV.v (Ty.int IntKind.i64) (Md.bor false true) i), (10, AV.ow 500010 ((Ty.int IntKind.i64).pair ((Ty.int IntKind.i64).pair Ty.unit)).sl (Md.own false (Md.bor false false)) t102), (11, AV.v (Ty.int IntKind.i64) (Md.bor false true) (↑(List.length r.fst) : Int)), (12, AV.v (Ty.int IntKind.i64) (Md.bor false true) t12)]⟩
theorem ref_Loop_h2 (nf : Nat) (G0 : St → Option (Int × Unit)) (next : List (List Int)) (head : Int) (r : List (Int × Int × Unit) × Unit) (t12 : Int) (fu : Nat) (s2 : Int) (p : Int × Int × Unit) (i : Int) (t102 : List (Int × Int × Unit)) : iter (fu + 1) (LC.F tab (ref_Loop_phi nf) (fun _ F => iter nf F) ref_Loop_keep 2 (ref_Loop_L2 nf G0)) (ref_Loop_m2 next head r t12 s2 p i t102) = ref_Loop_b2 nf  next head r t12 (fun s t10 t12 => G0 (ref_Loop_m0 next head r s t10 t12)) (fun s2 p i t102 => iter fu (LC.F tab (ref_Loop_phi nf) (fun _ F => iter nf F) ref_Loop_keep 2 (ref_Loop_L2 nf G0)) (ref_Loop_m2 next head r t12 s2 p i t102)) s2 p i t102 := by kernel_rfl
theorem ref_Loop_e2 (nf : Nat) (G0 : St → Option (Int × Unit)) (next : List (List Int)) (head : Int) (r : List (Int × Int × Unit) × Unit) (t12 : Int) : ∀ (fu : Nat) (s2 : Int) (p : Int × Int × Unit) (i : Int) (t102 : List (Int × Int × Unit)), iter fu (LC.F tab (ref_Loop_phi nf) (fun _ F => iter nf F) ref_Loop_keep 2 (ref_Loop_L2 nf G0)) (ref_Loop_m2 next head r t12 s2 p i t102) = ref_Loop_l2 nf next head r t12 (fun s t10 t12 => G0 (ref_Loop_m0 next head r s t10 t12)) fu s2 p i t102 := by
  intro fu
  induction fu with
  | zero => intros; rfl
  | succ fu ih =>
    intro s2 p i t102
    rw [ref_Loop_h2 nf G0 next head r t12 fu s2 p i t102]
    simp only [ih]
    rfl
theorem ref_Loop_h0 (nf : Nat)  (next : List (List Int)) (head : Int) (r : List (Int × Int × Unit) × Unit) (fu : Nat) (s : Int) (t10 : List (Int × Int × Unit)) (t12 : Int) : iter (fu + 1) (LC.F tab (ref_Loop_phi nf) (fun _ F => iter nf F) ref_Loop_keep 0 (ref_Loop_L0 nf )) (ref_Loop_m0 next head r s t10 t12) = ref_Loop_b0 nf (fun _ _ _ p3 v0 v1 v2 v3 => iter nf (LC.F tab (ref_Loop_phi nf) (fun _ F => iter nf F) ref_Loop_keep 2 (ref_Loop_L2 nf (iter fu (LC.F tab (ref_Loop_phi nf) (fun _ F => iter nf F) ref_Loop_keep 0 (ref_Loop_L0 nf ))))) (ref_Loop_m2 next head r p3 v0 v1 v2 v3)) next head r  (fun s t10 t12 => iter fu (LC.F tab (ref_Loop_phi nf) (fun _ F => iter nf F) ref_Loop_keep 0 (ref_Loop_L0 nf )) (ref_Loop_m0 next head r s t10 t12)) s t10 t12 := by kernel_rfl
theorem ref_Loop_e0 (nf : Nat)  (next : List (List Int)) (head : Int) (r : List (Int × Int × Unit) × Unit) : ∀ (fu : Nat) (s : Int) (t10 : List (Int × Int × Unit)) (t12 : Int), iter fu (LC.F tab (ref_Loop_phi nf) (fun _ F => iter nf F) ref_Loop_keep 0 (ref_Loop_L0 nf )) (ref_Loop_m0 next head r s t10 t12) = ref_Loop_l0 nf next head r  fu s t10 t12 := by
  intro fu
  induction fu with
  | zero => intros; rfl
  | succ fu ih =>
    intro s t10 t12
    rw [ref_Loop_h0 nf  next head r fu s t10 t12]
    simp only [ih, ref_Loop_e2]
    rfl
theorem ref_Loop_eq (nf : Nat) (next : List (List Int)) (head : Int) : runF tab (ref_Loop_phi nf) ref_Loop_keep nf [PT.val (Ty.int IntKind.i64).sl.sl (Md.bor true false), PT.val (Ty.int IntKind.i64) (Md.bor true false)] [(Ty.int IntKind.u32, Md.bor false true)] (resL (none) Try.f41) (codeOf Try.f41) ⟨next, head, ()⟩ = ref_Loop_f nf next head := by
  have h : runF tab (ref_Loop_phi nf) ref_Loop_keep nf [PT.val (Ty.int IntKind.i64).sl.sl (Md.bor true false), PT.val (Ty.int IntKind.i64) (Md.bor true false)] [(Ty.int IntKind.u32, Md.bor false true)] (resL (none) Try.f41) (codeOf Try.f41) ⟨next, head, ()⟩ = ref_Loop_p nf (fun p0 p1 p2 v0 v1 v2 => iter nf (LC.F tab (ref_Loop_phi nf) (fun _ F => iter nf F) ref_Loop_keep 0 (ref_Loop_L0 nf)) (ref_Loop_m0 p0 p1 p2 v0 v1 v2)) next head := by kernel_rfl
  rw [h]
  simp only [ref_Loop_e0]
  rfl
def ref_Loop_F (nf : Nat) (x : denPs [.val (.sl (.sl (.int .i64))) (.bor true false), .val (.int .i64) (.bor true false)]) : Option (denL [(.int .u32, .bor false true)]) := ref_Loop_f nf x.1 x.2.1
def ref_Loop_C (nf : Nat) : Contract := ⟨[.val (.sl (.sl (.int .i64))) (.bor true false), .val (.int .i64) (.bor true false)], [(.int .u32, .bor false true)], ref_Loop_F nf, none⟩
theorem ref_Loop_ok : FnOK Try.prog 41 := ⟨Try.f41, codeOf Try.f41, Try.func41, by kernel_rfl, by kernel_rfl⟩
theorem ref_Loop_holds (nf : Nat) : Contract.Holds Try.prog 41 (ref_Loop_C nf) :=
  fn_holds (Φ := ref_Loop_phi nf) (keep := ref_Loop_keep) (n := nf) ⟨tabs.1, tabs.2, (ctx_cons ref_Reach_ok (ref_Reach_holds nf) (ctx_cons ref_Has_ok (ref_Has_holds nf) (ctx_cons ref_BackPairs_ok (ref_BackPairs_holds nf) (ctx_cons ref_Rules_ok (ref_Rules_holds nf) ctx_nil)))), mixed⟩ (fn := Try.f41) ⟨Try.func41, by kernel_rfl, by kernel_rfl, by kernel_rfl⟩ (fun x => ref_Loop_eq nf x.1 x.2.1)

/-! codemason codemasonlaw.LoopTells -/
def law_LoopTells_phi (nf : Nat) : Nat → Option Contract := lookC [(21, ref_WayCheck_C nf), (40, loop_Loops_C nf), (41, ref_Loop_C nf)]
def law_LoopTells_keep : Nat → List Nat := lookK [(0, [0, 3, 4, 6, 7, 9, 10])]
def law_LoopTells_b0 (nf : Nat) (next : List (List Int)) (r : List Int × Int × Unit) (g0 : List Int → Int → Option (Bool × Unit)) (l' : List Int) (i : Int) : Option (Bool × Unit) :=
  bif decide (i < (↑l'.length : Int)) then
    bif decide (i < (↑next.length : Int)) then
      bif inb i l'.length then
        Option.bind (ref_Loop_f nf next i) fun r3 =>
        bif l'.getD i.toNat 0 != r3.fst then
          some ((false, ()))
        else
          g0 l' (IntKind.i64.wrap (i + 1))
      else
        none
    else
      bif r.snd.fst == 0 then
        some (((↑l'.length : Int) == (↑next.length : Int), ()))
      else
        some ((false, ()))
  else
    bif r.snd.fst == 0 then
      some (((↑l'.length : Int) == (↑next.length : Int), ()))
    else
      some ((false, ()))
def law_LoopTells_p (nf : Nat) (l0 : List (List Int) → List Int × Int × Unit → List Int → Int → Option (Bool × Unit)) (next : List (List Int)) : Option (Bool × Unit) :=
  Option.bind (loop_Loops_f nf next) fun r =>
  Option.bind (ref_WayCheck_f nf next) fun r2 =>
  bif r2.fst != 0 then
    bif r.snd.fst == r2.fst then
      some (((↑(List.length r.fst) : Int) == 0, ()))
    else
      some ((false, ()))
  else
    l0 next r r.fst 0
def law_LoopTells_l0 (nf : Nat) (next : List (List Int)) (r : List Int × Int × Unit) : Nat → List Int → Int → Option (Bool × Unit)
  | 0, _, _ => none
  | fu + 1, l', i => law_LoopTells_b0 nf  next r  (law_LoopTells_l0 nf next r  fu) l' i
def law_LoopTells_f (nf : Nat) (next : List (List Int)) : Option (Bool × Unit) := law_LoopTells_p nf (fun p0 p1 v0 v1 => law_LoopTells_l0 nf p0 p1 nf v0 v1) next
noncomputable def law_LoopTells_L0 (nf : Nat) : LC (Bool × Unit) := theL (findL tab (law_LoopTells_phi nf) (fun _ F => iter nf F) law_LoopTells_keep 0 0 (codeOf Try.f12) (fin tab [(Ty.bool, Md.bor false true)] (resL (none) Try.f12)) (fun _ _ => none) (fin tab [(Ty.bool, Md.bor false true)] (resL (none) Try.f12)))
def law_LoopTells_m0 (next : List (List Int)) (r : List Int × Int × Unit) (l' : List Int) (i : Int) : St := ⟨fresh, [(0, AV.v (Ty.int IntKind.i64).sl.sl (Md.bor true false) next), (3, AV.ow 500003 (Ty.int IntKind.u32).sl (Md.own false (Md.bor false false)) l'), (4, AV.v (Ty.int IntKind.i64) (Md.bor false true) r.snd.fst), (6, AV.v (Ty.int IntKind.i64) (Md.bor false true) i), (7, AV.dead), (9, AV.dead), (10, AV.dead)]⟩
theorem law_LoopTells_h0 (nf : Nat)  (next : List (List Int)) (r : List Int × Int × Unit) (fu : Nat) (l' : List Int) (i : Int) : iter (fu + 1) (LC.F tab (law_LoopTells_phi nf) (fun _ F => iter nf F) law_LoopTells_keep 0 (law_LoopTells_L0 nf )) (law_LoopTells_m0 next r l' i) = law_LoopTells_b0 nf  next r  (fun l' i => iter fu (LC.F tab (law_LoopTells_phi nf) (fun _ F => iter nf F) law_LoopTells_keep 0 (law_LoopTells_L0 nf )) (law_LoopTells_m0 next r l' i)) l' i := by kernel_rfl
theorem law_LoopTells_e0 (nf : Nat)  (next : List (List Int)) (r : List Int × Int × Unit) : ∀ (fu : Nat) (l' : List Int) (i : Int), iter fu (LC.F tab (law_LoopTells_phi nf) (fun _ F => iter nf F) law_LoopTells_keep 0 (law_LoopTells_L0 nf )) (law_LoopTells_m0 next r l' i) = law_LoopTells_l0 nf next r  fu l' i := by
  intro fu
  induction fu with
  | zero => intros; rfl
  | succ fu ih =>
    intro l' i
    rw [law_LoopTells_h0 nf  next r fu l' i]
    simp only [ih]
    rfl
theorem law_LoopTells_eq (nf : Nat) (next : List (List Int)) : runF tab (law_LoopTells_phi nf) law_LoopTells_keep nf [PT.val (Ty.int IntKind.i64).sl.sl (Md.bor true false)] [(Ty.bool, Md.bor false true)] (resL (none) Try.f12) (codeOf Try.f12) ⟨next, ()⟩ = law_LoopTells_f nf next := by
  have h : runF tab (law_LoopTells_phi nf) law_LoopTells_keep nf [PT.val (Ty.int IntKind.i64).sl.sl (Md.bor true false)] [(Ty.bool, Md.bor false true)] (resL (none) Try.f12) (codeOf Try.f12) ⟨next, ()⟩ = law_LoopTells_p nf (fun p0 p1 v0 v1 => iter nf (LC.F tab (law_LoopTells_phi nf) (fun _ F => iter nf F) law_LoopTells_keep 0 (law_LoopTells_L0 nf)) (law_LoopTells_m0 p0 p1 v0 v1)) next := by kernel_rfl
  rw [h]
  simp only [law_LoopTells_e0]
  rfl
def law_LoopTells_F (nf : Nat) (x : denPs [.val (.sl (.sl (.int .i64))) (.bor true false)]) : Option (denL [(.bool, .bor false true)]) := law_LoopTells_f nf x.1
def law_LoopTells_C (nf : Nat) : Contract := ⟨[.val (.sl (.sl (.int .i64))) (.bor true false)], [(.bool, .bor false true)], law_LoopTells_F nf, none⟩
theorem law_LoopTells_ok : FnOK Try.prog 12 := ⟨Try.f12, codeOf Try.f12, Try.func12, by kernel_rfl, by kernel_rfl⟩
theorem law_LoopTells_holds (nf : Nat) : Contract.Holds Try.prog 12 (law_LoopTells_C nf) :=
  fn_holds (Φ := law_LoopTells_phi nf) (keep := law_LoopTells_keep) (n := nf) ⟨tabs.1, tabs.2, (ctx_cons ref_WayCheck_ok (ref_WayCheck_holds nf) (ctx_cons loop_Loops_ok (loop_Loops_holds nf) (ctx_cons ref_Loop_ok (ref_Loop_holds nf) ctx_nil))), mixed⟩ (fn := Try.f12) ⟨Try.func12, by kernel_rfl, by kernel_rfl, by kernel_rfl⟩ (fun x => law_LoopTells_eq nf x.1)

/-! codemason loop.Deep -/
def loop_Deep_phi (nf : Nat) : Nat → Option Contract := lookC [(40, loop_Loops_C nf)]
def loop_Deep_keep : Nat → List Nat := lookK [(2, [4, 6, 8, 10, 12, 13, 20, 21, 22, 23, 28, 29]), (0, [4, 6, 10, 12, 13, 20, 21, 22, 23])]
def loop_Deep_b0 (nf : Nat) (l2 : List Int → Int → List Int × Int × Unit → List Int → List Int → List Int → Int → Option (List Int × Int × Unit)) (r : List Int × Int × Unit) (g0 : List Int → List Int → Int → Option (List Int × Int × Unit)) (l' : List Int) (out : List Int) (t23 : Int) : Option (List Int × Int × Unit) :=
  bif decide (t23 < (↑(List.length r.fst) : Int)) then
    bif inb t23 l'.length then
      l2 l' t23 r out l' out 0
    else
      none
  else
    some ((out, 0, ()))
def loop_Deep_b2 (nf : Nat) (l' : List Int) (t23 : Int) (r : List Int × Int × Unit) (out : List Int) (g0 : List Int → List Int → Int → Option (List Int × Int × Unit)) (g2 : List Int → List Int → Int → Option (List Int × Int × Unit)) (l'2 : List Int) (out2 : List Int) (t29 : Int) : Option (List Int × Int × Unit) :=
  bif decide (t29 < (↑out.length : Int)) then
    bif inb t29 out2.length then
      bif decide (0 ≤ t29) then
        bif inb t29 out2.length then
          g2 l'2 (out2.set t29.toNat (IntKind.i64.wrap (out2.getD t29.toNat 0 + IntKind.i64.wrap (IntKind.u32.wrap (↑(BitVec.ofInt IntKind.u32.bits (shrI IntKind.u32 (l'.getD t23.toNat 0) t29) &&& BitVec.ofInt IntKind.u32.bits 1).toNat : Int))))) (IntKind.i64.wrap (t29 + 1))
        else
          none
      else
        none
    else
      none
  else
    g0 l'2 out2 (IntKind.i64.wrap (t23 + 1))
def loop_Deep_p (nf : Nat) (l0 : List Int × Int × Unit → List Int → List Int → Int → Option (List Int × Int × Unit)) (next : List (List Int)) : Option (List Int × Int × Unit) :=
  Option.bind (loop_Loops_f nf next) fun r =>
  bif r.snd.fst != 0 then
    some (([], r.snd.fst, ()))
  else
    bif decide (0 ≤ (↑(List.length r.fst) : Int)) && decide ((↑(List.length r.fst) : Int) ≤ (↑(List.length r.fst) : Int)) && decide ((↑(List.length r.fst) : Int) ≤ (↑lim : Int)) then
      l0 r r.fst (List.replicate (↑(List.length r.fst) : Int).toNat 0) 0
    else
      none
def loop_Deep_l2 (nf : Nat) (l' : List Int) (t23 : Int) (r : List Int × Int × Unit) (out : List Int) (g0 : List Int → List Int → Int → Option (List Int × Int × Unit)) : Nat → List Int → List Int → Int → Option (List Int × Int × Unit)
  | 0, _, _, _ => none
  | fu + 1, l'2, out2, t29 => loop_Deep_b2 nf  l' t23 r out g0 (loop_Deep_l2 nf l' t23 r out g0 fu) l'2 out2 t29
def loop_Deep_l0 (nf : Nat) (r : List Int × Int × Unit) : Nat → List Int → List Int → Int → Option (List Int × Int × Unit)
  | 0, _, _, _ => none
  | fu + 1, l', out, t23 => loop_Deep_b0 nf (fun p0 p1 _ p3 v0 v1 v2 => loop_Deep_l2 nf p0 p1 r p3 (fun l' out t23 => loop_Deep_l0 nf r  fu l' out t23) nf v0 v1 v2) r  (loop_Deep_l0 nf r  fu) l' out t23
def loop_Deep_f (nf : Nat) (next : List (List Int)) : Option (List Int × Int × Unit) := loop_Deep_p nf (fun p0 v0 v1 v2 => loop_Deep_l0 nf p0 nf v0 v1 v2) next
noncomputable def loop_Deep_L0 (nf : Nat) : LC (List Int × Int × Unit) := theL (findL tab (loop_Deep_phi nf) (fun _ F => iter nf F) loop_Deep_keep 0 0 (codeOf Try.f42) (fin tab [((Ty.int IntKind.i64).sl, Md.own false (Md.bor false false)), (Ty.int IntKind.i64, Md.bor false true)] (resL (none) Try.f42)) (fun _ _ => none) (fin tab [((Ty.int IntKind.i64).sl, Md.own false (Md.bor false false)), (Ty.int IntKind.i64, Md.bor false true)] (resL (none) Try.f42)))
def loop_Deep_m0 (r : List Int × Int × Unit) (l' : List Int) (out : List Int) (t23 : Int) : St := ⟨fresh, [(4, AV.ow 500004 (Ty.int IntKind.u32).sl (Md.own false (Md.bor false false)) l'), (6, AV.ow 500006 (Ty.int IntKind.i64).sl (Md.own false (Md.bor false false)) out), (10, AV.dead), (12, AV.dead), (13, AV.dead), (20, AV.dead), (21, AV.al 4 500004 []), (22, AV.v (Ty.int IntKind.i64) (Md.bor false true) (↑(List.length r.fst) : Int)), (23, AV.v (Ty.int IntKind.i64) (Md.bor false true) t23)]⟩
noncomputable def loop_Deep_L2 (nf : Nat) (G0 : St → Option (List Int × Int × Unit)) : LC (List Int × Int × Unit) := theL (findL tab (loop_Deep_phi nf) (fun _ F => iter nf F) loop_Deep_keep 2 0 (loop_Deep_L0 nf ).c (fun st => norm (loop_Deep_keep 0) st G0) (loop_Deep_L0 nf ).Kx (loop_Deep_L0 nf ).Kr)
def loop_Deep_m2 (l' : List Int) (t23 : Int) (r : List Int × Int × Unit) (out : List Int) (l'2 : List Int) (out2 : List Int) (t29 : Int) : St := ⟨fresh, [(4, AV.ow 500004 (Ty.int IntKind.u32).sl (Md.own false (Md.bor false false)) l'2), (6, AV.ow 500006 (Ty.int IntKind.i64).sl (Md.own false (Md.bor false false)) out2), (8, AV.v (Ty.int IntKind.u32) (Md.bor false true) (l'.getD t23.toNat 0)), (10, AV.dead), (12, AV.dead), (13, AV.dead), (20, AV.dead), (21, AV.al 4 500004 []), (22, AV.v (Ty.int IntKind.i64) (Md.bor false true) (↑(List.length r.fst) : Int)), (23, AV.v (Ty.int IntKind.i64) (Md.bor false true) t23), (28, AV.v (Ty.int IntKind.i64) (Md.bor false true) (↑out.length : Int)), (29, AV.v (Ty.int IntKind.i64) (Md.bor false true) t29)]⟩
theorem loop_Deep_h2 (nf : Nat) (G0 : St → Option (List Int × Int × Unit)) (l' : List Int) (t23 : Int) (r : List Int × Int × Unit) (out : List Int) (fu : Nat) (l'2 : List Int) (out2 : List Int) (t29 : Int) : iter (fu + 1) (LC.F tab (loop_Deep_phi nf) (fun _ F => iter nf F) loop_Deep_keep 2 (loop_Deep_L2 nf G0)) (loop_Deep_m2 l' t23 r out l'2 out2 t29) = loop_Deep_b2 nf  l' t23 r out (fun l' out t23 => G0 (loop_Deep_m0 r l' out t23)) (fun l'2 out2 t29 => iter fu (LC.F tab (loop_Deep_phi nf) (fun _ F => iter nf F) loop_Deep_keep 2 (loop_Deep_L2 nf G0)) (loop_Deep_m2 l' t23 r out l'2 out2 t29)) l'2 out2 t29 := by kernel_rfl
theorem loop_Deep_e2 (nf : Nat) (G0 : St → Option (List Int × Int × Unit)) (l' : List Int) (t23 : Int) (r : List Int × Int × Unit) (out : List Int) : ∀ (fu : Nat) (l'2 : List Int) (out2 : List Int) (t29 : Int), iter fu (LC.F tab (loop_Deep_phi nf) (fun _ F => iter nf F) loop_Deep_keep 2 (loop_Deep_L2 nf G0)) (loop_Deep_m2 l' t23 r out l'2 out2 t29) = loop_Deep_l2 nf l' t23 r out (fun l' out t23 => G0 (loop_Deep_m0 r l' out t23)) fu l'2 out2 t29 := by
  intro fu
  induction fu with
  | zero => intros; rfl
  | succ fu ih =>
    intro l'2 out2 t29
    rw [loop_Deep_h2 nf G0 l' t23 r out fu l'2 out2 t29]
    simp only [ih]
    rfl
theorem loop_Deep_h0 (nf : Nat)  (r : List Int × Int × Unit) (fu : Nat) (l' : List Int) (out : List Int) (t23 : Int) : iter (fu + 1) (LC.F tab (loop_Deep_phi nf) (fun _ F => iter nf F) loop_Deep_keep 0 (loop_Deep_L0 nf )) (loop_Deep_m0 r l' out t23) = loop_Deep_b0 nf (fun p0 p1 _ p3 v0 v1 v2 => iter nf (LC.F tab (loop_Deep_phi nf) (fun _ F => iter nf F) loop_Deep_keep 2 (loop_Deep_L2 nf (iter fu (LC.F tab (loop_Deep_phi nf) (fun _ F => iter nf F) loop_Deep_keep 0 (loop_Deep_L0 nf ))))) (loop_Deep_m2 p0 p1 r p3 v0 v1 v2)) r  (fun l' out t23 => iter fu (LC.F tab (loop_Deep_phi nf) (fun _ F => iter nf F) loop_Deep_keep 0 (loop_Deep_L0 nf )) (loop_Deep_m0 r l' out t23)) l' out t23 := by kernel_rfl
theorem loop_Deep_e0 (nf : Nat)  (r : List Int × Int × Unit) : ∀ (fu : Nat) (l' : List Int) (out : List Int) (t23 : Int), iter fu (LC.F tab (loop_Deep_phi nf) (fun _ F => iter nf F) loop_Deep_keep 0 (loop_Deep_L0 nf )) (loop_Deep_m0 r l' out t23) = loop_Deep_l0 nf r  fu l' out t23 := by
  intro fu
  induction fu with
  | zero => intros; rfl
  | succ fu ih =>
    intro l' out t23
    rw [loop_Deep_h0 nf  r fu l' out t23]
    simp only [ih, loop_Deep_e2]
    rfl
theorem loop_Deep_eq (nf : Nat) (next : List (List Int)) : runF tab (loop_Deep_phi nf) loop_Deep_keep nf [PT.val (Ty.int IntKind.i64).sl.sl (Md.bor true false)] [((Ty.int IntKind.i64).sl, Md.own false (Md.bor false false)), (Ty.int IntKind.i64, Md.bor false true)] (resL (none) Try.f42) (codeOf Try.f42) ⟨next, ()⟩ = loop_Deep_f nf next := by
  have h : runF tab (loop_Deep_phi nf) loop_Deep_keep nf [PT.val (Ty.int IntKind.i64).sl.sl (Md.bor true false)] [((Ty.int IntKind.i64).sl, Md.own false (Md.bor false false)), (Ty.int IntKind.i64, Md.bor false true)] (resL (none) Try.f42) (codeOf Try.f42) ⟨next, ()⟩ = loop_Deep_p nf (fun p0 v0 v1 v2 => iter nf (LC.F tab (loop_Deep_phi nf) (fun _ F => iter nf F) loop_Deep_keep 0 (loop_Deep_L0 nf)) (loop_Deep_m0 p0 v0 v1 v2)) next := by kernel_rfl
  rw [h]
  simp only [loop_Deep_e0]
  rfl
def loop_Deep_F (nf : Nat) (x : denPs [.val (.sl (.sl (.int .i64))) (.bor true false)]) : Option (denL [(.sl (.int .i64), .own false (.bor false false)), (.int .i64, .bor false true)]) := loop_Deep_f nf x.1
def loop_Deep_C (nf : Nat) : Contract := ⟨[.val (.sl (.sl (.int .i64))) (.bor true false)], [(.sl (.int .i64), .own false (.bor false false)), (.int .i64, .bor false true)], loop_Deep_F nf, none⟩
theorem loop_Deep_ok : FnOK Try.prog 42 := ⟨Try.f42, codeOf Try.f42, Try.func42, by kernel_rfl, by kernel_rfl⟩
theorem loop_Deep_holds (nf : Nat) : Contract.Holds Try.prog 42 (loop_Deep_C nf) :=
  fn_holds (Φ := loop_Deep_phi nf) (keep := loop_Deep_keep) (n := nf) ⟨tabs.1, tabs.2, (ctx_cons loop_Loops_ok (loop_Loops_holds nf) ctx_nil), mixed⟩ (fn := Try.f42) ⟨Try.func42, by kernel_rfl, by kernel_rfl, by kernel_rfl⟩ (fun x => loop_Deep_eq nf x.1)

/-! codemason codemasonlaw.LoopDeeps -/
def law_LoopDeeps_phi (nf : Nat) : Nat → Option Contract := lookC [(21, ref_WayCheck_C nf), (29, ref_Bit_C nf), (41, ref_Loop_C nf), (42, loop_Deep_C nf)]
def law_LoopDeeps_keep : Nat → List Nat := lookK [(2, [0, 3, 4, 6, 7, 8, 9, 11, 12]), (0, [0, 3, 4, 6, 9, 11, 12])]
def law_LoopDeeps_b0 (nf : Nat) (l2 : List (List Int) → List Int × Int × Unit → Int → List Int → Int → Int → Option (Bool × Unit)) (next : List (List Int)) (r : List Int × Int × Unit) (g0 : List Int → Int → Option (Bool × Unit)) (l' : List Int) (i : Int) : Option (Bool × Unit) :=
  bif decide (i < (↑l'.length : Int)) then
    bif decide (i < (↑next.length : Int)) then
      l2 next r i l' 0 0
    else
      bif r.snd.fst == 0 then
        some (((↑l'.length : Int) == (↑next.length : Int), ()))
      else
        some ((false, ()))
  else
    bif r.snd.fst == 0 then
      some (((↑l'.length : Int) == (↑next.length : Int), ()))
    else
      some ((false, ()))
def law_LoopDeeps_b2 (nf : Nat) (next : List (List Int)) (r : List Int × Int × Unit) (i : Int) (g0 : List Int → Int → Option (Bool × Unit)) (g2 : List Int → Int → Int → Option (Bool × Unit)) (l'2 : List Int) (k' : Int) (h' : Int) : Option (Bool × Unit) :=
  bif decide (h' < (↑next.length : Int)) then
    Option.bind (ref_Loop_f nf next h') fun r3 =>
    Option.bind (ref_Bit_f nf r3.fst i) fun r4 =>
    bif r4.fst then
      g2 l'2 (IntKind.i64.wrap (k' + 1)) (IntKind.i64.wrap (h' + 1))
    else
      g2 l'2 k' (IntKind.i64.wrap (h' + 1))
  else
    bif inb i l'2.length then
      bif l'2.getD i.toNat 0 != k' then
        some ((false, ()))
      else
        g0 l'2 (IntKind.i64.wrap (i + 1))
    else
      none
def law_LoopDeeps_p (nf : Nat) (l0 : List (List Int) → List Int × Int × Unit → List Int → Int → Option (Bool × Unit)) (next : List (List Int)) : Option (Bool × Unit) :=
  Option.bind (loop_Deep_f nf next) fun r =>
  Option.bind (ref_WayCheck_f nf next) fun r2 =>
  bif r2.fst != 0 then
    bif r.snd.fst == r2.fst then
      some (((↑(List.length r.fst) : Int) == 0, ()))
    else
      some ((false, ()))
  else
    l0 next r r.fst 0
def law_LoopDeeps_l2 (nf : Nat) (next : List (List Int)) (r : List Int × Int × Unit) (i : Int) (g0 : List Int → Int → Option (Bool × Unit)) : Nat → List Int → Int → Int → Option (Bool × Unit)
  | 0, _, _, _ => none
  | fu + 1, l'2, k', h' => law_LoopDeeps_b2 nf  next r i g0 (law_LoopDeeps_l2 nf next r i g0 fu) l'2 k' h'
def law_LoopDeeps_l0 (nf : Nat) (next : List (List Int)) (r : List Int × Int × Unit) : Nat → List Int → Int → Option (Bool × Unit)
  | 0, _, _ => none
  | fu + 1, l', i => law_LoopDeeps_b0 nf (fun _ _ p2 v0 v1 v2 => law_LoopDeeps_l2 nf next r p2 (fun l' i => law_LoopDeeps_l0 nf next r  fu l' i) nf v0 v1 v2) next r  (law_LoopDeeps_l0 nf next r  fu) l' i
def law_LoopDeeps_f (nf : Nat) (next : List (List Int)) : Option (Bool × Unit) := law_LoopDeeps_p nf (fun p0 p1 v0 v1 => law_LoopDeeps_l0 nf p0 p1 nf v0 v1) next
noncomputable def law_LoopDeeps_L0 (nf : Nat) : LC (Bool × Unit) := theL (findL tab (law_LoopDeeps_phi nf) (fun _ F => iter nf F) law_LoopDeeps_keep 0 0 (codeOf Try.f13) (fin tab [(Ty.bool, Md.bor false true)] (resL (none) Try.f13)) (fun _ _ => none) (fin tab [(Ty.bool, Md.bor false true)] (resL (none) Try.f13)))
def law_LoopDeeps_m0 (next : List (List Int)) (r : List Int × Int × Unit) (l' : List Int) (i : Int) : St := ⟨fresh, [(0, AV.v (Ty.int IntKind.i64).sl.sl (Md.bor true false) next), (3, AV.ow 500003 (Ty.int IntKind.i64).sl (Md.own false (Md.bor false false)) l'), (4, AV.v (Ty.int IntKind.i64) (Md.bor false true) r.snd.fst), (6, AV.v (Ty.int IntKind.i64) (Md.bor false true) i), (9, AV.dead), (11, AV.dead), (12, AV.dead)]⟩
noncomputable def law_LoopDeeps_L2 (nf : Nat) (G0 : St → Option (Bool × Unit)) : LC (Bool × Unit) := theL (findL tab (law_LoopDeeps_phi nf) (fun _ F => iter nf F) law_LoopDeeps_keep 2 0 (law_LoopDeeps_L0 nf ).c (fun st => norm (law_LoopDeeps_keep 0) st G0) (law_LoopDeeps_L0 nf ).Kx (law_LoopDeeps_L0 nf ).Kr)
def law_LoopDeeps_m2 (next : List (List Int)) (r : List Int × Int × Unit) (i : Int) (l'2 : List Int) (k' : Int) (h' : Int) : St := ⟨fresh, [(0, AV.v (Ty.int IntKind.i64).sl.sl (Md.bor true false) next), (3, AV.ow 500003 (Ty.int IntKind.i64).sl (Md.own false (Md.bor false false)) l'2), (4, AV.v (Ty.int IntKind.i64) (Md.bor false true) r.snd.fst), (6, AV.v (Ty.int IntKind.i64) (Md.bor false true) i), (7, AV.v (Ty.int IntKind.i64) (Md.bor false true) k'), (8, AV.v (Ty.int IntKind.i64) (Md.bor false true) h'), (9, AV.dead), (11, AV.dead), (12, AV.dead)]⟩
theorem law_LoopDeeps_h2 (nf : Nat) (G0 : St → Option (Bool × Unit)) (next : List (List Int)) (r : List Int × Int × Unit) (i : Int) (fu : Nat) (l'2 : List Int) (k' : Int) (h' : Int) : iter (fu + 1) (LC.F tab (law_LoopDeeps_phi nf) (fun _ F => iter nf F) law_LoopDeeps_keep 2 (law_LoopDeeps_L2 nf G0)) (law_LoopDeeps_m2 next r i l'2 k' h') = law_LoopDeeps_b2 nf  next r i (fun l' i => G0 (law_LoopDeeps_m0 next r l' i)) (fun l'2 k' h' => iter fu (LC.F tab (law_LoopDeeps_phi nf) (fun _ F => iter nf F) law_LoopDeeps_keep 2 (law_LoopDeeps_L2 nf G0)) (law_LoopDeeps_m2 next r i l'2 k' h')) l'2 k' h' := by kernel_rfl
theorem law_LoopDeeps_e2 (nf : Nat) (G0 : St → Option (Bool × Unit)) (next : List (List Int)) (r : List Int × Int × Unit) (i : Int) : ∀ (fu : Nat) (l'2 : List Int) (k' : Int) (h' : Int), iter fu (LC.F tab (law_LoopDeeps_phi nf) (fun _ F => iter nf F) law_LoopDeeps_keep 2 (law_LoopDeeps_L2 nf G0)) (law_LoopDeeps_m2 next r i l'2 k' h') = law_LoopDeeps_l2 nf next r i (fun l' i => G0 (law_LoopDeeps_m0 next r l' i)) fu l'2 k' h' := by
  intro fu
  induction fu with
  | zero => intros; rfl
  | succ fu ih =>
    intro l'2 k' h'
    rw [law_LoopDeeps_h2 nf G0 next r i fu l'2 k' h']
    simp only [ih]
    rfl
theorem law_LoopDeeps_h0 (nf : Nat)  (next : List (List Int)) (r : List Int × Int × Unit) (fu : Nat) (l' : List Int) (i : Int) : iter (fu + 1) (LC.F tab (law_LoopDeeps_phi nf) (fun _ F => iter nf F) law_LoopDeeps_keep 0 (law_LoopDeeps_L0 nf )) (law_LoopDeeps_m0 next r l' i) = law_LoopDeeps_b0 nf (fun _ _ p2 v0 v1 v2 => iter nf (LC.F tab (law_LoopDeeps_phi nf) (fun _ F => iter nf F) law_LoopDeeps_keep 2 (law_LoopDeeps_L2 nf (iter fu (LC.F tab (law_LoopDeeps_phi nf) (fun _ F => iter nf F) law_LoopDeeps_keep 0 (law_LoopDeeps_L0 nf ))))) (law_LoopDeeps_m2 next r p2 v0 v1 v2)) next r  (fun l' i => iter fu (LC.F tab (law_LoopDeeps_phi nf) (fun _ F => iter nf F) law_LoopDeeps_keep 0 (law_LoopDeeps_L0 nf )) (law_LoopDeeps_m0 next r l' i)) l' i := by kernel_rfl
theorem law_LoopDeeps_e0 (nf : Nat)  (next : List (List Int)) (r : List Int × Int × Unit) : ∀ (fu : Nat) (l' : List Int) (i : Int), iter fu (LC.F tab (law_LoopDeeps_phi nf) (fun _ F => iter nf F) law_LoopDeeps_keep 0 (law_LoopDeeps_L0 nf )) (law_LoopDeeps_m0 next r l' i) = law_LoopDeeps_l0 nf next r  fu l' i := by
  intro fu
  induction fu with
  | zero => intros; rfl
  | succ fu ih =>
    intro l' i
    rw [law_LoopDeeps_h0 nf  next r fu l' i]
    simp only [ih, law_LoopDeeps_e2]
    rfl
theorem law_LoopDeeps_eq (nf : Nat) (next : List (List Int)) : runF tab (law_LoopDeeps_phi nf) law_LoopDeeps_keep nf [PT.val (Ty.int IntKind.i64).sl.sl (Md.bor true false)] [(Ty.bool, Md.bor false true)] (resL (none) Try.f13) (codeOf Try.f13) ⟨next, ()⟩ = law_LoopDeeps_f nf next := by
  have h : runF tab (law_LoopDeeps_phi nf) law_LoopDeeps_keep nf [PT.val (Ty.int IntKind.i64).sl.sl (Md.bor true false)] [(Ty.bool, Md.bor false true)] (resL (none) Try.f13) (codeOf Try.f13) ⟨next, ()⟩ = law_LoopDeeps_p nf (fun p0 p1 v0 v1 => iter nf (LC.F tab (law_LoopDeeps_phi nf) (fun _ F => iter nf F) law_LoopDeeps_keep 0 (law_LoopDeeps_L0 nf)) (law_LoopDeeps_m0 p0 p1 v0 v1)) next := by kernel_rfl
  rw [h]
  simp only [law_LoopDeeps_e0]
  rfl
def law_LoopDeeps_F (nf : Nat) (x : denPs [.val (.sl (.sl (.int .i64))) (.bor true false)]) : Option (denL [(.bool, .bor false true)]) := law_LoopDeeps_f nf x.1
def law_LoopDeeps_C (nf : Nat) : Contract := ⟨[.val (.sl (.sl (.int .i64))) (.bor true false)], [(.bool, .bor false true)], law_LoopDeeps_F nf, none⟩
theorem law_LoopDeeps_ok : FnOK Try.prog 13 := ⟨Try.f13, codeOf Try.f13, Try.func13, by kernel_rfl, by kernel_rfl⟩
theorem law_LoopDeeps_holds (nf : Nat) : Contract.Holds Try.prog 13 (law_LoopDeeps_C nf) :=
  fn_holds (Φ := law_LoopDeeps_phi nf) (keep := law_LoopDeeps_keep) (n := nf) ⟨tabs.1, tabs.2, (ctx_cons ref_WayCheck_ok (ref_WayCheck_holds nf) (ctx_cons ref_Bit_ok (ref_Bit_holds nf) (ctx_cons ref_Loop_ok (ref_Loop_holds nf) (ctx_cons loop_Deep_ok (loop_Deep_holds nf) ctx_nil)))), mixed⟩ (fn := Try.f13) ⟨Try.func13, by kernel_rfl, by kernel_rfl, by kernel_rfl⟩ (fun x => law_LoopDeeps_eq nf x.1)
end
end Go.Proofs.Ytccbcbhiblohgaa.S
