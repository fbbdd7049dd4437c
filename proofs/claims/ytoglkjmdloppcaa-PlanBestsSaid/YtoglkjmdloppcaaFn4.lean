/- The functions of the code, as plain functions, and the theorems that say so: made by a program of this proof's own. -/
import Derived.Test.YtoglkjmdloppcaaFn3
import Derived.Test.YtoglkjmdloppcaaChecked
namespace Go.Proofs.Ytoglkjmdloppcaa.S
open Go Go.Ab
noncomputable section

/-! codemason plan.ready -/
def plan_ready_phi (nf : Nat) : Nat → Option Contract := lookC []
def plan_ready_keep : Nat → List Nat := lookK [(0, [0, 1, 5, 8, 9, 10])]
def plan_ready_b0 (nf : Nat) (l' : List Int) (done : Int) (g0 : Int → Int → Option (Int × Unit)) (s : Int) (t10 : Int) : Option (Int × Unit) :=
  bif decide (t10 < (↑l'.length : Int)) then
    bif inb t10 l'.length then
      bif decide (0 ≤ t10) then
        bif IntKind.u32.wrap (↑(BitVec.ofInt IntKind.u32.bits (shrI IntKind.u32 done t10) &&& BitVec.ofInt IntKind.u32.bits 1).toNat : Int) == 0 then
          bif IntKind.u32.wrap (↑(BitVec.ofInt IntKind.u32.bits (l'.getD t10.toNat 0) &&& ~~~BitVec.ofInt IntKind.u32.bits done).toNat : Int) == 0 then
            bif decide (0 ≤ t10) then
              g0 (IntKind.u32.wrap (↑(BitVec.ofInt IntKind.u32.bits s ||| BitVec.ofInt IntKind.u32.bits (shlI IntKind.u32 1 t10)).toNat : Int)) (IntKind.i64.wrap (t10 + 1))
            else
              none
          else
            g0 s (IntKind.i64.wrap (t10 + 1))
        else
          g0 s (IntKind.i64.wrap (t10 + 1))
      else
        none
    else
      none
  else
    some ((s, ()))
def plan_ready_p (nf : Nat) (l0 : List Int → Int → Int → Int → Option (Int × Unit)) (l' : List Int) (done : Int) : Option (Int × Unit) :=
  l0 l' done 0 0
def plan_ready_l0 (nf : Nat) (l' : List Int) (done : Int) : Nat → Int → Int → Option (Int × Unit)
  | 0, _, _ => none
  | fu + 1, s, t10 => plan_ready_b0 nf  l' done  (plan_ready_l0 nf l' done  fu) s t10
def plan_ready_f (nf : Nat) (l' : List Int) (done : Int) : Option (Int × Unit) := plan_ready_p nf (fun p0 p1 v0 v1 => plan_ready_l0 nf p0 p1 nf v0 v1) l' done
noncomputable def plan_ready_L0 (nf : Nat) : LC (Int × Unit) := theL (findL tab (plan_ready_phi nf) (fun _ F => iter nf F) plan_ready_keep 0 0 (codeOf Try.f68) (fin tab [(Ty.int IntKind.u32, Md.bor false true)] (resL ([]) Try.f68)) (fun _ _ => none) (fin tab [(Ty.int IntKind.u32, Md.bor false true)] (resL ([]) Try.f68)))
def plan_ready_m0 (l' : List Int) (done : Int) (s : Int) (t10 : Int) : St := ⟨fresh, [(0, AV.v (Ty.int IntKind.u32).sl (Md.bor true false) l'), (1, AV.v (Ty.int IntKind.u32) (Md.bor false true) done), (5, AV.v (Ty.int IntKind.u32) (Md.bor false true) s), (8, AV.v (Ty.int IntKind.u32).sl (Md.bor true false) l'), (9, AV.v (Ty.int IntKind.i64) (Md.bor false true) (↑l'.length : Int)), (10, AV.v (Ty.int IntKind.i64) (Md.bor false true) t10)]⟩
theorem plan_ready_h0 (nf : Nat)  (l' : List Int) (done : Int) (fu : Nat) (s : Int) (t10 : Int) : iter (fu + 1) (LC.F tab (plan_ready_phi nf) (fun _ F => iter nf F) plan_ready_keep 0 (plan_ready_L0 nf )) (plan_ready_m0 l' done s t10) = plan_ready_b0 nf  l' done  (fun s t10 => iter fu (LC.F tab (plan_ready_phi nf) (fun _ F => iter nf F) plan_ready_keep 0 (plan_ready_L0 nf )) (plan_ready_m0 l' done s t10)) s t10 := by kernel_rfl
theorem plan_ready_e0 (nf : Nat)  (l' : List Int) (done : Int) : ∀ (fu : Nat) (s : Int) (t10 : Int), iter fu (LC.F tab (plan_ready_phi nf) (fun _ F => iter nf F) plan_ready_keep 0 (plan_ready_L0 nf )) (plan_ready_m0 l' done s t10) = plan_ready_l0 nf l' done  fu s t10 := by
  intro fu
  induction fu with
  | zero => intros; rfl
  | succ fu ih =>
    intro s t10
    rw [plan_ready_h0 nf  l' done fu s t10]
    simp only [ih]
    rfl
theorem plan_ready_eq (nf : Nat) (l' : List Int) (done : Int) : runF tab (plan_ready_phi nf) plan_ready_keep nf [PT.val (Ty.int IntKind.u32).sl (Md.bor true false), PT.val (Ty.int IntKind.u32) (Md.bor true false)] [(Ty.int IntKind.u32, Md.bor false true)] (resL ([]) Try.f68) (codeOf Try.f68) ⟨l', done, ()⟩ = plan_ready_f nf l' done := by
  have h : runF tab (plan_ready_phi nf) plan_ready_keep nf [PT.val (Ty.int IntKind.u32).sl (Md.bor true false), PT.val (Ty.int IntKind.u32) (Md.bor true false)] [(Ty.int IntKind.u32, Md.bor false true)] (resL ([]) Try.f68) (codeOf Try.f68) ⟨l', done, ()⟩ = plan_ready_p nf (fun p0 p1 v0 v1 => iter nf (LC.F tab (plan_ready_phi nf) (fun _ F => iter nf F) plan_ready_keep 0 (plan_ready_L0 nf)) (plan_ready_m0 p0 p1 v0 v1)) l' done := by kernel_rfl
  rw [h]
  simp only [plan_ready_e0]
  rfl
def plan_ready_F (nf : Nat) (x : denPs [.val (.sl (.int .u32)) (.bor true false), .val (.int .u32) (.bor true false)]) : Option (denL [(.int .u32, .bor false true)]) := plan_ready_f nf x.1 x.2.1
def plan_ready_C (nf : Nat) : Contract := ⟨[.val (.sl (.int .u32)) (.bor true false), .val (.int .u32) (.bor true false)], [(.int .u32, .bor false true)], plan_ready_F nf, []⟩
theorem plan_ready_ok : FnOK Try.prog 68 := ⟨Try.f68, codeOf Try.f68, Try.func68, by kernel_rfl, by kernel_rfl⟩
theorem plan_ready_holds (nf : Nat) : Contract.Holds Try.prog 68 (plan_ready_C nf) :=
  fn_holds (Φ := plan_ready_phi nf) (keep := plan_ready_keep) (n := nf) ⟨tabs.1, tabs.2, ctx_nil, mixed, bk_ok bkls rfl⟩ (fn := Try.f68) ⟨Try.func68, by kernel_rfl, by kernel_rfl, by kernel_rfl⟩ (fun x => plan_ready_eq nf x.1 x.2.1)

/-! codemason plan.ahead -/
def plan_ahead_phi (nf : Nat) : Nat → Option Contract := lookC [(68, plan_ready_C nf)]
def plan_ahead_keep : Nat → List Nat := lookK [(2, [0, 6, 9, 22, 55, 56]), (0, [0, 1, 6, 22, 23, 24, 25])]
def plan_ahead_b0 (nf : Nat) (l2 : Int → List Int → Int → Int → Option (List Int × Int × Unit)) (n' : Int) (pairs : List (Int × Int × Unit)) (g0 : List Int → Int → Option (List Int × Int × Unit)) (l' : List Int) (t25 : Int) : Option (List Int × Int × Unit) :=
  bif decide (t25 < (↑pairs.length : Int)) then
    bif inb t25 pairs.length then
      bif decide ((if (pairs.getD t25.toNat (0, 0, ())).snd.fst < (pairs.getD t25.toNat (0, 0, ())).fst then (pairs.getD t25.toNat (0, 0, ())).snd.fst else (pairs.getD t25.toNat (0, 0, ())).fst) < 0) then
        some (([], 2, ()))
      else
        bif decide ((if (pairs.getD t25.toNat (0, 0, ())).snd.fst > (pairs.getD t25.toNat (0, 0, ())).fst then (pairs.getD t25.toNat (0, 0, ())).snd.fst else (pairs.getD t25.toNat (0, 0, ())).fst) ≥ n') then
          some (([], 2, ()))
        else
          bif inb (pairs.getD t25.toNat (0, 0, ())).snd.fst l'.length then
            bif decide (0 ≤ (pairs.getD t25.toNat (0, 0, ())).fst) then
              bif inb (pairs.getD t25.toNat (0, 0, ())).snd.fst l'.length then
                g0 (l'.set (Int.toNat (pairs.getD t25.toNat (0, 0, ())).snd.fst) (IntKind.u32.wrap (↑(BitVec.ofInt IntKind.u32.bits (l'.getD (Int.toNat (pairs.getD t25.toNat (0, 0, ())).snd.fst) 0) ||| BitVec.ofInt IntKind.u32.bits (shlI IntKind.u32 1 (pairs.getD t25.toNat (0, 0, ())).fst)).toNat : Int))) (IntKind.i64.wrap (t25 + 1))
              else
                none
            else
              none
          else
            none
    else
      none
  else
    l2 n' l' 0 0
def plan_ahead_b2 (nf : Nat) (n' : Int) (g2 : List Int → Int → Int → Option (List Int × Int × Unit)) (l'2 : List Int) (done : Int) (t56 : Int) : Option (List Int × Int × Unit) :=
  bif decide (t56 < n') then
    Option.bind (plan_ready_f nf l'2 done) fun r =>
    g2 l'2 (IntKind.u32.wrap (↑(BitVec.ofInt IntKind.u32.bits done ||| BitVec.ofInt IntKind.u32.bits r.fst).toNat : Int)) (IntKind.i64.wrap (t56 + 1))
  else
    bif decide (0 ≤ n') then
      bif done != IntKind.u32.wrap (shlI IntKind.u32 1 n' - 1) then
        some (([], 3, ()))
      else
        some ((l'2, 0, ()))
    else
      none
def plan_ahead_p (nf : Nat) (l0 : Int → List (Int × Int × Unit) → List Int → Int → Option (List Int × Int × Unit)) (n' : Int) (pairs : List (Int × Int × Unit)) : Option (List Int × Int × Unit) :=
  bif decide (n' < 1) then
    some (([], 1, ()))
  else
    bif decide (n' > 8) then
      some (([], 1, ()))
    else
      bif decide ((↑pairs.length : Int) > 28) then
        some (([], 1, ()))
      else
        bif decide (0 ≤ n') && decide (n' ≤ n') && decide (n' ≤ (↑lim : Int)) then
          l0 n' pairs (List.replicate n'.toNat 0) 0
        else
          none
def plan_ahead_l2 (nf : Nat) (n' : Int) : Nat → List Int → Int → Int → Option (List Int × Int × Unit)
  | 0, _, _, _ => none
  | fu + 1, l'2, done, t56 => plan_ahead_b2 nf  n'  (plan_ahead_l2 nf n'  fu) l'2 done t56
def plan_ahead_l0 (nf : Nat) (n' : Int) (pairs : List (Int × Int × Unit)) : Nat → List Int → Int → Option (List Int × Int × Unit)
  | 0, _, _ => none
  | fu + 1, l', t25 => plan_ahead_b0 nf (fun _ v0 v1 v2 => plan_ahead_l2 nf n'  nf v0 v1 v2) n' pairs  (plan_ahead_l0 nf n' pairs  fu) l' t25
def plan_ahead_f (nf : Nat) (n' : Int) (pairs : List (Int × Int × Unit)) : Option (List Int × Int × Unit) := plan_ahead_p nf (fun p0 p1 v0 v1 => plan_ahead_l0 nf p0 p1 nf v0 v1) n' pairs
noncomputable def plan_ahead_L0 (nf : Nat) : LC (List Int × Int × Unit) := theL (findL tab (plan_ahead_phi nf) (fun _ F => iter nf F) plan_ahead_keep 0 0 (codeOf Try.f67) (fin tab [((Ty.int IntKind.u32).sl, Md.own false (Md.bor false false)), (Ty.int IntKind.i64, Md.bor false true)] (resL ([]) Try.f67)) (fun _ _ => none) (fin tab [((Ty.int IntKind.u32).sl, Md.own false (Md.bor false false)), (Ty.int IntKind.i64, Md.bor false true)] (resL ([]) Try.f67)))
def plan_ahead_m0 (n' : Int) (pairs : List (Int × Int × Unit)) (l' : List Int) (t25 : Int) : St := ⟨fresh, [(0, AV.v (Ty.int IntKind.i64) (Md.bor false true) n'), (1, AV.v ((Ty.int IntKind.i64).pair ((Ty.int IntKind.i64).pair Ty.unit)).sl (Md.bor true false) pairs), (6, AV.ow 500006 (Ty.int IntKind.u32).sl (Md.own false (Md.bor false false)) l'), (22, AV.dead), (23, AV.v ((Ty.int IntKind.i64).pair ((Ty.int IntKind.i64).pair Ty.unit)).sl (Md.bor true false) pairs), (24, AV.v (Ty.int IntKind.i64) (Md.bor false true) (↑pairs.length : Int)), (25, AV.v (Ty.int IntKind.i64) (Md.bor false true) t25)]⟩
noncomputable def plan_ahead_L2 (nf : Nat) : LC (List Int × Int × Unit) := theL (findL tab (plan_ahead_phi nf) (fun _ F => iter nf F) plan_ahead_keep 2 0 (codeOf Try.f67) (fin tab [((Ty.int IntKind.u32).sl, Md.own false (Md.bor false false)), (Ty.int IntKind.i64, Md.bor false true)] (resL ([]) Try.f67)) (fun _ _ => none) (fin tab [((Ty.int IntKind.u32).sl, Md.own false (Md.bor false false)), (Ty.int IntKind.i64, Md.bor false true)] (resL ([]) Try.f67)))
def plan_ahead_m2 (n' : Int) (l'2 : List Int) (done : Int) (t56 : Int) : St := ⟨fresh, [(0, AV.v (Ty.int IntKind.i64) (Md.bor false true) n'), (6, AV.ow 500006 (Ty.int IntKind.u32).sl (Md.own false (Md.bor false false)) l'2), (9, AV.v (Ty.int IntKind.u32) (Md.bor false true) done), (22, AV.dead), (55, AV.v (Ty.int IntKind.i64) (Md.bor false true) n'), (56, AV.v (Ty.int IntKind.i64) (Md.bor false true) t56)]⟩
theorem plan_ahead_h2 (nf : Nat)  (n' : Int) (fu : Nat) (l'2 : List Int) (done : Int) (t56 : Int) : iter (fu + 1) (LC.F tab (plan_ahead_phi nf) (fun _ F => iter nf F) plan_ahead_keep 2 (plan_ahead_L2 nf )) (plan_ahead_m2 n' l'2 done t56) = plan_ahead_b2 nf  n'  (fun l'2 done t56 => iter fu (LC.F tab (plan_ahead_phi nf) (fun _ F => iter nf F) plan_ahead_keep 2 (plan_ahead_L2 nf )) (plan_ahead_m2 n' l'2 done t56)) l'2 done t56 := by kernel_rfl
theorem plan_ahead_e2 (nf : Nat)  (n' : Int) : ∀ (fu : Nat) (l'2 : List Int) (done : Int) (t56 : Int), iter fu (LC.F tab (plan_ahead_phi nf) (fun _ F => iter nf F) plan_ahead_keep 2 (plan_ahead_L2 nf )) (plan_ahead_m2 n' l'2 done t56) = plan_ahead_l2 nf n'  fu l'2 done t56 := by
  intro fu
  induction fu with
  | zero => intros; rfl
  | succ fu ih =>
    intro l'2 done t56
    rw [plan_ahead_h2 nf  n' fu l'2 done t56]
    simp only [ih]
    rfl
theorem plan_ahead_h0 (nf : Nat)  (n' : Int) (pairs : List (Int × Int × Unit)) (fu : Nat) (l' : List Int) (t25 : Int) : iter (fu + 1) (LC.F tab (plan_ahead_phi nf) (fun _ F => iter nf F) plan_ahead_keep 0 (plan_ahead_L0 nf )) (plan_ahead_m0 n' pairs l' t25) = plan_ahead_b0 nf (fun _ v0 v1 v2 => iter nf (LC.F tab (plan_ahead_phi nf) (fun _ F => iter nf F) plan_ahead_keep 2 (plan_ahead_L2 nf )) (plan_ahead_m2 n' v0 v1 v2)) n' pairs  (fun l' t25 => iter fu (LC.F tab (plan_ahead_phi nf) (fun _ F => iter nf F) plan_ahead_keep 0 (plan_ahead_L0 nf )) (plan_ahead_m0 n' pairs l' t25)) l' t25 := by kernel_rfl
theorem plan_ahead_e0 (nf : Nat)  (n' : Int) (pairs : List (Int × Int × Unit)) : ∀ (fu : Nat) (l' : List Int) (t25 : Int), iter fu (LC.F tab (plan_ahead_phi nf) (fun _ F => iter nf F) plan_ahead_keep 0 (plan_ahead_L0 nf )) (plan_ahead_m0 n' pairs l' t25) = plan_ahead_l0 nf n' pairs  fu l' t25 := by
  intro fu
  induction fu with
  | zero => intros; rfl
  | succ fu ih =>
    intro l' t25
    rw [plan_ahead_h0 nf  n' pairs fu l' t25]
    simp only [ih, plan_ahead_e2]
    rfl
theorem plan_ahead_eq (nf : Nat) (n' : Int) (pairs : List (Int × Int × Unit)) : runF tab (plan_ahead_phi nf) plan_ahead_keep nf [PT.val (Ty.int IntKind.i64) (Md.bor true false), PT.val ((Ty.int IntKind.i64).pair ((Ty.int IntKind.i64).pair Ty.unit)).sl (Md.bor true false)] [((Ty.int IntKind.u32).sl, Md.own false (Md.bor false false)), (Ty.int IntKind.i64, Md.bor false true)] (resL ([]) Try.f67) (codeOf Try.f67) ⟨n', pairs, ()⟩ = plan_ahead_f nf n' pairs := by
  have h : runF tab (plan_ahead_phi nf) plan_ahead_keep nf [PT.val (Ty.int IntKind.i64) (Md.bor true false), PT.val ((Ty.int IntKind.i64).pair ((Ty.int IntKind.i64).pair Ty.unit)).sl (Md.bor true false)] [((Ty.int IntKind.u32).sl, Md.own false (Md.bor false false)), (Ty.int IntKind.i64, Md.bor false true)] (resL ([]) Try.f67) (codeOf Try.f67) ⟨n', pairs, ()⟩ = plan_ahead_p nf (fun p0 p1 v0 v1 => iter nf (LC.F tab (plan_ahead_phi nf) (fun _ F => iter nf F) plan_ahead_keep 0 (plan_ahead_L0 nf)) (plan_ahead_m0 p0 p1 v0 v1)) n' pairs := by kernel_rfl
  rw [h]
  simp only [plan_ahead_e0]
  rfl
def plan_ahead_F (nf : Nat) (x : denPs [.val (.int .i64) (.bor true false), .val (.sl (.pair (.int .i64) (.pair (.int .i64) (.unit)))) (.bor true false)]) : Option (denL [(.sl (.int .u32), .own false (.bor false false)), (.int .i64, .bor false true)]) := plan_ahead_f nf x.1 x.2.1
def plan_ahead_C (nf : Nat) : Contract := ⟨[.val (.int .i64) (.bor true false), .val (.sl (.pair (.int .i64) (.pair (.int .i64) (.unit)))) (.bor true false)], [(.sl (.int .u32), .own false (.bor false false)), (.int .i64, .bor false true)], plan_ahead_F nf, []⟩
theorem plan_ahead_ok : FnOK Try.prog 67 := ⟨Try.f67, codeOf Try.f67, Try.func67, by kernel_rfl, by kernel_rfl⟩
theorem plan_ahead_holds (nf : Nat) : Contract.Holds Try.prog 67 (plan_ahead_C nf) :=
  fn_holds (Φ := plan_ahead_phi nf) (keep := plan_ahead_keep) (n := nf) ⟨tabs.1, tabs.2, (ctx_cons plan_ready_ok (plan_ready_holds nf) ctx_nil), mixed, bk_ok bkls rfl⟩ (fn := Try.f67) ⟨Try.func67, by kernel_rfl, by kernel_rfl, by kernel_rfl⟩ (fun x => plan_ahead_eq nf x.1 x.2.1)

/-! codemason plan.Best -/
def plan_Best_phi (nf : Nat) : Nat → Option Contract := lookC [(67, plan_ahead_C nf), (68, plan_ready_C nf), (69, bits_OnesCount32_C nf)]
def plan_Best_keep : Nat → List Nat := lookK [(4, [0, 2, 8, 10, 11, 12, 13, 14, 15, 17, 20, 21, 32, 33, 42, 43, 44, 78]), (2, [0, 2, 8, 10, 11, 12, 17, 20, 21, 32, 33, 42, 43, 44, 78]), (0, [0, 2, 8, 10, 11, 17, 20, 21, 32, 33, 78])]
def plan_Best_b0 (nf : Nat) (l2 : Int → Int → Int → List Int → List (Int × Bool) → List (Int × Bool) → List (Int × Bool) → Option (Int × Int × Unit)) (n' : Int) (hands : Int) (g0 : List Int → List (Int × Bool) → Int → Option (Int × Int × Unit)) (l' : List Int) (now : List (Int × Bool)) (turn : Int) : Option (Int × Int × Unit) :=
  bif decide (0 ≤ n') then
    bif (getM (Ty.int IntKind.u32) Ty.bool now (IntKind.u32.wrap (shlI IntKind.u32 1 n' - 1))).getD false then
      some ((turn, 0, ()))
    else
      l2 n' hands turn l' now [] now
  else
    none
def plan_Best_b2 (nf : Nat) (l4 : Int → Int → Int → List (Int × Bool) → Nat → Int × Unit → List Int → List (Int × Bool) → List (Int × Bool) → Int → Option (Int × Int × Unit)) (n' : Int) (hands : Int) (turn : Int) (g0 : List Int → List (Int × Bool) → Int → Option (Int × Int × Unit)) (g2 : List Int → List (Int × Bool) → List (Int × Bool) → List (Int × Bool) → Option (Int × Int × Unit)) (l'2 : List Int) (now2 : List (Int × Bool)) (next : List (Int × Bool)) (t44 : List (Int × Bool)) : Option (Int × Int × Unit) :=
  bif t44.isEmpty then
    g0 l'2 next (IntKind.i64.wrap (turn + 1))
  else
    agree t44.length fun i =>
    Option.bind (plan_ready_f nf l'2 ((t44.getD i (0, false)).fst)) fun r2 =>
    l4 n' hands turn t44 i r2 l'2 now2 next r2.fst
def plan_Best_b4 (nf : Nat) (n' : Int) (hands : Int) (turn : Int) (t44 : List (Int × Bool)) (i : Nat) (r2 : Int × Unit) (g2 : List Int → List (Int × Bool) → List (Int × Bool) → List (Int × Bool) → Option (Int × Int × Unit)) (g0 : List Int → List (Int × Bool) → Int → Option (Int × Int × Unit)) (g4 : List Int → List (Int × Bool) → List (Int × Bool) → Int → Option (Int × Int × Unit)) (l'3 : List Int) (now3 : List (Int × Bool)) (next2 : List (Int × Bool)) (s : Int) : Option (Int × Int × Unit) :=
  bif s != 0 then
    Option.bind (bits_OnesCount32_f nf s) fun r3 =>
    bif r3.fst == hands then
      g4 l'3 now3 (insM (Ty.int IntKind.u32) Ty.bool next2 (IntKind.u32.wrap (↑(BitVec.ofInt IntKind.u32.bits (t44.getD i (0, false)).fst ||| BitVec.ofInt IntKind.u32.bits s).toNat : Int)) true) (IntKind.u32.wrap (↑(BitVec.ofInt IntKind.u32.bits (IntKind.u32.wrap (s - 1)) &&& BitVec.ofInt IntKind.u32.bits r2.fst).toNat : Int))
    else
      bif decide (r3.fst < hands) then
        bif s == r2.fst then
          g4 l'3 now3 (insM (Ty.int IntKind.u32) Ty.bool next2 (IntKind.u32.wrap (↑(BitVec.ofInt IntKind.u32.bits (t44.getD i (0, false)).fst ||| BitVec.ofInt IntKind.u32.bits s).toNat : Int)) true) (IntKind.u32.wrap (↑(BitVec.ofInt IntKind.u32.bits (IntKind.u32.wrap (s - 1)) &&& BitVec.ofInt IntKind.u32.bits r2.fst).toNat : Int))
        else
          g4 l'3 now3 next2 (IntKind.u32.wrap (↑(BitVec.ofInt IntKind.u32.bits (IntKind.u32.wrap (s - 1)) &&& BitVec.ofInt IntKind.u32.bits r2.fst).toNat : Int))
      else
        g4 l'3 now3 next2 (IntKind.u32.wrap (↑(BitVec.ofInt IntKind.u32.bits (IntKind.u32.wrap (s - 1)) &&& BitVec.ofInt IntKind.u32.bits r2.fst).toNat : Int))
  else
    g2 l'3 now3 next2 (t44.eraseIdx i)
def plan_Best_p (nf : Nat) (l0 : Int → Int → List Int → List (Int × Bool) → Int → Option (Int × Int × Unit)) (n' : Int) (pairs : List (Int × Int × Unit)) (hands : Int) : Option (Int × Int × Unit) :=
  Option.bind (plan_ahead_f nf n' pairs) fun r =>
  bif r.snd.fst != 0 then
    some ((0, r.snd.fst, ()))
  else
    bif decide (hands < 1) then
      some ((0, 4, ()))
    else
      bif decide (hands > 8) then
        some ((0, 4, ()))
      else
        l0 n' hands r.fst (insM (Ty.int IntKind.u32) Ty.bool [] 0 true) 0
def plan_Best_l4 (nf : Nat) (n' : Int) (hands : Int) (turn : Int) (t44 : List (Int × Bool)) (i : Nat) (r2 : Int × Unit) (g2 : List Int → List (Int × Bool) → List (Int × Bool) → List (Int × Bool) → Option (Int × Int × Unit)) (g0 : List Int → List (Int × Bool) → Int → Option (Int × Int × Unit)) : Nat → List Int → List (Int × Bool) → List (Int × Bool) → Int → Option (Int × Int × Unit)
  | 0, _, _, _, _ => none
  | fu + 1, l'3, now3, next2, s => plan_Best_b4 nf  n' hands turn t44 i r2 g2 g0 (plan_Best_l4 nf n' hands turn t44 i r2 g2 g0 fu) l'3 now3 next2 s
def plan_Best_l2 (nf : Nat) (n' : Int) (hands : Int) (turn : Int) (g0 : List Int → List (Int × Bool) → Int → Option (Int × Int × Unit)) : Nat → List Int → List (Int × Bool) → List (Int × Bool) → List (Int × Bool) → Option (Int × Int × Unit)
  | 0, _, _, _, _ => none
  | fu + 1, l'2, now2, next, t44 => plan_Best_b2 nf (fun _ _ _ p3 p4 p5 v0 v1 v2 v3 => plan_Best_l4 nf n' hands turn p3 p4 p5 (fun l'2 now2 next t44 => plan_Best_l2 nf n' hands turn g0 fu l'2 now2 next t44) g0 nf v0 v1 v2 v3) n' hands turn g0 (plan_Best_l2 nf n' hands turn g0 fu) l'2 now2 next t44
def plan_Best_l0 (nf : Nat) (n' : Int) (hands : Int) : Nat → List Int → List (Int × Bool) → Int → Option (Int × Int × Unit)
  | 0, _, _, _ => none
  | fu + 1, l', now, turn => plan_Best_b0 nf (fun _ _ p2 v0 v1 v2 v3 => plan_Best_l2 nf n' hands p2 (fun l' now turn => plan_Best_l0 nf n' hands  fu l' now turn) nf v0 v1 v2 v3) n' hands  (plan_Best_l0 nf n' hands  fu) l' now turn
def plan_Best_f (nf : Nat) (n' : Int) (pairs : List (Int × Int × Unit)) (hands : Int) : Option (Int × Int × Unit) := plan_Best_p nf (fun p0 p1 v0 v1 v2 => plan_Best_l0 nf p0 p1 nf v0 v1 v2) n' pairs hands
noncomputable def plan_Best_L0 (nf : Nat) : LC (Int × Int × Unit) := theL (findL tab (plan_Best_phi nf) (fun _ F => iter nf F) plan_Best_keep 0 0 (codeOf Try.f28) (fin tab [(Ty.int IntKind.i64, Md.bor false true), (Ty.int IntKind.i64, Md.bor false true)] (resL ([]) Try.f28)) (fun _ _ => none) (fin tab [(Ty.int IntKind.i64, Md.bor false true), (Ty.int IntKind.i64, Md.bor false true)] (resL ([]) Try.f28)))
def plan_Best_m0 (n' : Int) (hands : Int) (l' : List Int) (now : List (Int × Bool)) (turn : Int) : St := ⟨fresh, [(0, AV.v (Ty.int IntKind.i64) (Md.bor false true) n'), (2, AV.v (Ty.int IntKind.i64) (Md.bor false true) hands), (8, AV.ow 500008 (Ty.int IntKind.u32).sl (Md.own false (Md.bor false false)) l'), (10, AV.ow 500010 ((Ty.int IntKind.u32).mp Ty.bool) (Md.own true (Md.bor false false)) now), (11, AV.v (Ty.int IntKind.i64) (Md.bor false true) turn), (17, AV.dead), (20, AV.dead), (21, AV.dead), (32, AV.dead), (33, AV.dead), (78, AV.dead)]⟩
noncomputable def plan_Best_L2 (nf : Nat) (G0 : St → Option (Int × Int × Unit)) : LC (Int × Int × Unit) := theL (findL tab (plan_Best_phi nf) (fun _ F => iter nf F) plan_Best_keep 2 0 (plan_Best_L0 nf ).c (fun st => norm (plan_Best_keep 0) st G0) (plan_Best_L0 nf ).Kx (plan_Best_L0 nf ).Kr)
def plan_Best_m2 (n' : Int) (hands : Int) (turn : Int) (l'2 : List Int) (now2 : List (Int × Bool)) (next : List (Int × Bool)) (t44 : List (Int × Bool)) : St := ⟨fresh, [(0, AV.v (Ty.int IntKind.i64) (Md.bor false true) n'), (2, AV.v (Ty.int IntKind.i64) (Md.bor false true) hands), (8, AV.ow 500008 (Ty.int IntKind.u32).sl (Md.own false (Md.bor false false)) l'2), (10, AV.ow 500010 ((Ty.int IntKind.u32).mp Ty.bool) (Md.own true (Md.bor false false)) now2), (11, AV.v (Ty.int IntKind.i64) (Md.bor false true) turn), (12, AV.ow 500012 ((Ty.int IntKind.u32).mp Ty.bool) (Md.own true (Md.bor false false)) next), (17, AV.dead), (20, AV.dead), (21, AV.dead), (32, AV.dead), (33, AV.dead), (42, AV.dead), (43, AV.al 10 500010 []), (44, AV.it 10 500010 [] (Ty.int IntKind.u32) Ty.bool t44 none), (78, AV.dead)]⟩
noncomputable def plan_Best_L4 (nf : Nat) (G0 : St → Option (Int × Int × Unit)) (G2 : St → Option (Int × Int × Unit)) : LC (Int × Int × Unit) := theL (findL tab (plan_Best_phi nf) (fun _ F => iter nf F) plan_Best_keep 4 2 (plan_Best_L2 nf G0).c (fun st => norm (plan_Best_keep 2) st G2) (plan_Best_L2 nf G0).Kx (plan_Best_L2 nf G0).Kr)
def plan_Best_m4 (n' : Int) (hands : Int) (turn : Int) (t44 : List (Int × Bool)) (i : Nat) (r2 : Int × Unit) (l'3 : List Int) (now3 : List (Int × Bool)) (next2 : List (Int × Bool)) (s : Int) : St := ⟨fresh, [(0, AV.v (Ty.int IntKind.i64) (Md.bor false true) n'), (2, AV.v (Ty.int IntKind.i64) (Md.bor false true) hands), (8, AV.ow 500008 (Ty.int IntKind.u32).sl (Md.own false (Md.bor false false)) l'3), (10, AV.ow 500010 ((Ty.int IntKind.u32).mp Ty.bool) (Md.own true (Md.bor false false)) now3), (11, AV.v (Ty.int IntKind.i64) (Md.bor false true) turn), (12, AV.ow 500012 ((Ty.int IntKind.u32).mp Ty.bool) (Md.own true (Md.bor false false)) next2), (13, AV.v (Ty.int IntKind.u32) (Md.bor false true) (t44.getD i (0, false)).fst), (14, AV.v (Ty.int IntKind.u32) (Md.bor false true) r2.fst), (15, AV.v (Ty.int IntKind.u32) (Md.bor false true) s), (17, AV.dead), (20, AV.dead), (21, AV.dead), (32, AV.dead), (33, AV.dead), (42, AV.dead), (43, AV.al 10 500010 []), (44, AV.it 10 500010 [] (Ty.int IntKind.u32) Ty.bool (t44.eraseIdx i) none), (78, AV.dead)]⟩
theorem plan_Best_h4 (nf : Nat) (G0 : St → Option (Int × Int × Unit)) (G2 : St → Option (Int × Int × Unit)) (n' : Int) (hands : Int) (turn : Int) (t44 : List (Int × Bool)) (i : Nat) (r2 : Int × Unit) (fu : Nat) (l'3 : List Int) (now3 : List (Int × Bool)) (next2 : List (Int × Bool)) (s : Int) : iter (fu + 1) (LC.F tab (plan_Best_phi nf) (fun _ F => iter nf F) plan_Best_keep 4 (plan_Best_L4 nf G0 G2)) (plan_Best_m4 n' hands turn t44 i r2 l'3 now3 next2 s) = plan_Best_b4 nf  n' hands turn t44 i r2 (fun l'2 now2 next t44 => G2 (plan_Best_m2 n' hands turn l'2 now2 next t44)) (fun l' now turn => G0 (plan_Best_m0 n' hands l' now turn)) (fun l'3 now3 next2 s => iter fu (LC.F tab (plan_Best_phi nf) (fun _ F => iter nf F) plan_Best_keep 4 (plan_Best_L4 nf G0 G2)) (plan_Best_m4 n' hands turn t44 i r2 l'3 now3 next2 s)) l'3 now3 next2 s := by kernel_rfl
theorem plan_Best_e4 (nf : Nat) (G0 : St → Option (Int × Int × Unit)) (G2 : St → Option (Int × Int × Unit)) (n' : Int) (hands : Int) (turn : Int) (t44 : List (Int × Bool)) (i : Nat) (r2 : Int × Unit) : ∀ (fu : Nat) (l'3 : List Int) (now3 : List (Int × Bool)) (next2 : List (Int × Bool)) (s : Int), iter fu (LC.F tab (plan_Best_phi nf) (fun _ F => iter nf F) plan_Best_keep 4 (plan_Best_L4 nf G0 G2)) (plan_Best_m4 n' hands turn t44 i r2 l'3 now3 next2 s) = plan_Best_l4 nf n' hands turn t44 i r2 (fun l'2 now2 next t44 => G2 (plan_Best_m2 n' hands turn l'2 now2 next t44)) (fun l' now turn => G0 (plan_Best_m0 n' hands l' now turn)) fu l'3 now3 next2 s := by
  intro fu
  induction fu with
  | zero => intros; rfl
  | succ fu ih =>
    intro l'3 now3 next2 s
    rw [plan_Best_h4 nf G0 G2 n' hands turn t44 i r2 fu l'3 now3 next2 s]
    simp only [ih]
    rfl
theorem plan_Best_h2 (nf : Nat) (G0 : St → Option (Int × Int × Unit)) (n' : Int) (hands : Int) (turn : Int) (fu : Nat) (l'2 : List Int) (now2 : List (Int × Bool)) (next : List (Int × Bool)) (t44 : List (Int × Bool)) : iter (fu + 1) (LC.F tab (plan_Best_phi nf) (fun _ F => iter nf F) plan_Best_keep 2 (plan_Best_L2 nf G0)) (plan_Best_m2 n' hands turn l'2 now2 next t44) = plan_Best_b2 nf (fun _ _ _ p3 p4 p5 v0 v1 v2 v3 => iter nf (LC.F tab (plan_Best_phi nf) (fun _ F => iter nf F) plan_Best_keep 4 (plan_Best_L4 nf G0 (iter fu (LC.F tab (plan_Best_phi nf) (fun _ F => iter nf F) plan_Best_keep 2 (plan_Best_L2 nf G0))))) (plan_Best_m4 n' hands turn p3 p4 p5 v0 v1 v2 v3)) n' hands turn (fun l' now turn => G0 (plan_Best_m0 n' hands l' now turn)) (fun l'2 now2 next t44 => iter fu (LC.F tab (plan_Best_phi nf) (fun _ F => iter nf F) plan_Best_keep 2 (plan_Best_L2 nf G0)) (plan_Best_m2 n' hands turn l'2 now2 next t44)) l'2 now2 next t44 := by kernel_rfl
theorem plan_Best_e2 (nf : Nat) (G0 : St → Option (Int × Int × Unit)) (n' : Int) (hands : Int) (turn : Int) : ∀ (fu : Nat) (l'2 : List Int) (now2 : List (Int × Bool)) (next : List (Int × Bool)) (t44 : List (Int × Bool)), iter fu (LC.F tab (plan_Best_phi nf) (fun _ F => iter nf F) plan_Best_keep 2 (plan_Best_L2 nf G0)) (plan_Best_m2 n' hands turn l'2 now2 next t44) = plan_Best_l2 nf n' hands turn (fun l' now turn => G0 (plan_Best_m0 n' hands l' now turn)) fu l'2 now2 next t44 := by
  intro fu
  induction fu with
  | zero => intros; rfl
  | succ fu ih =>
    intro l'2 now2 next t44
    rw [plan_Best_h2 nf G0 n' hands turn fu l'2 now2 next t44]
    simp only [ih, plan_Best_e4]
    rfl
theorem plan_Best_h0 (nf : Nat)  (n' : Int) (hands : Int) (fu : Nat) (l' : List Int) (now : List (Int × Bool)) (turn : Int) : iter (fu + 1) (LC.F tab (plan_Best_phi nf) (fun _ F => iter nf F) plan_Best_keep 0 (plan_Best_L0 nf )) (plan_Best_m0 n' hands l' now turn) = plan_Best_b0 nf (fun _ _ p2 v0 v1 v2 v3 => iter nf (LC.F tab (plan_Best_phi nf) (fun _ F => iter nf F) plan_Best_keep 2 (plan_Best_L2 nf (iter fu (LC.F tab (plan_Best_phi nf) (fun _ F => iter nf F) plan_Best_keep 0 (plan_Best_L0 nf ))))) (plan_Best_m2 n' hands p2 v0 v1 v2 v3)) n' hands  (fun l' now turn => iter fu (LC.F tab (plan_Best_phi nf) (fun _ F => iter nf F) plan_Best_keep 0 (plan_Best_L0 nf )) (plan_Best_m0 n' hands l' now turn)) l' now turn := by kernel_rfl
theorem plan_Best_e0 (nf : Nat)  (n' : Int) (hands : Int) : ∀ (fu : Nat) (l' : List Int) (now : List (Int × Bool)) (turn : Int), iter fu (LC.F tab (plan_Best_phi nf) (fun _ F => iter nf F) plan_Best_keep 0 (plan_Best_L0 nf )) (plan_Best_m0 n' hands l' now turn) = plan_Best_l0 nf n' hands  fu l' now turn := by
  intro fu
  induction fu with
  | zero => intros; rfl
  | succ fu ih =>
    intro l' now turn
    rw [plan_Best_h0 nf  n' hands fu l' now turn]
    simp only [ih, plan_Best_e2]
    rfl
theorem plan_Best_eq (nf : Nat) (n' : Int) (pairs : List (Int × Int × Unit)) (hands : Int) : runF tab (plan_Best_phi nf) plan_Best_keep nf [PT.val (Ty.int IntKind.i64) (Md.bor true false), PT.val ((Ty.int IntKind.i64).pair ((Ty.int IntKind.i64).pair Ty.unit)).sl (Md.bor true false), PT.val (Ty.int IntKind.i64) (Md.bor true false)] [(Ty.int IntKind.i64, Md.bor false true), (Ty.int IntKind.i64, Md.bor false true)] (resL ([]) Try.f28) (codeOf Try.f28) ⟨n', pairs, hands, ()⟩ = plan_Best_f nf n' pairs hands := by
  have h : runF tab (plan_Best_phi nf) plan_Best_keep nf [PT.val (Ty.int IntKind.i64) (Md.bor true false), PT.val ((Ty.int IntKind.i64).pair ((Ty.int IntKind.i64).pair Ty.unit)).sl (Md.bor true false), PT.val (Ty.int IntKind.i64) (Md.bor true false)] [(Ty.int IntKind.i64, Md.bor false true), (Ty.int IntKind.i64, Md.bor false true)] (resL ([]) Try.f28) (codeOf Try.f28) ⟨n', pairs, hands, ()⟩ = plan_Best_p nf (fun p0 p1 v0 v1 v2 => iter nf (LC.F tab (plan_Best_phi nf) (fun _ F => iter nf F) plan_Best_keep 0 (plan_Best_L0 nf)) (plan_Best_m0 p0 p1 v0 v1 v2)) n' pairs hands := by kernel_rfl
  rw [h]
  simp only [plan_Best_e0]
  rfl
def plan_Best_F (nf : Nat) (x : denPs [.val (.int .i64) (.bor true false), .val (.sl (.pair (.int .i64) (.pair (.int .i64) (.unit)))) (.bor true false), .val (.int .i64) (.bor true false)]) : Option (denL [(.int .i64, .bor false true), (.int .i64, .bor false true)]) := plan_Best_f nf x.1 x.2.1 x.2.2.1
def plan_Best_C (nf : Nat) : Contract := ⟨[.val (.int .i64) (.bor true false), .val (.sl (.pair (.int .i64) (.pair (.int .i64) (.unit)))) (.bor true false), .val (.int .i64) (.bor true false)], [(.int .i64, .bor false true), (.int .i64, .bor false true)], plan_Best_F nf, []⟩
theorem plan_Best_ok : FnOK Try.prog 28 := ⟨Try.f28, codeOf Try.f28, Try.func28, by kernel_rfl, by kernel_rfl⟩
theorem plan_Best_holds (nf : Nat) : Contract.Holds Try.prog 28 (plan_Best_C nf) :=
  fn_holds (Φ := plan_Best_phi nf) (keep := plan_Best_keep) (n := nf) ⟨tabs.1, tabs.2, (ctx_cons plan_ahead_ok (plan_ahead_holds nf) (ctx_cons plan_ready_ok (plan_ready_holds nf) (ctx_cons bits_OnesCount32_ok (bits_OnesCount32_holds nf) ctx_nil))), mixed, bk_ok bkls rfl⟩ (fn := Try.f28) ⟨Try.func28, by kernel_rfl, by kernel_rfl, by kernel_rfl⟩ (fun x => plan_Best_eq nf x.1 x.2.1 x.2.2.1)

/-! codemason codemasonref.Inside -/
def ref_Inside_phi (nf : Nat) : Nat → Option Contract := lookC []
def ref_Inside_keep : Nat → List Nat := lookK [(0, [0, 1, 7, 8, 9])]
def ref_Inside_b0 (nf : Nat) (n' : Int) (l' : List Int) (g0 : Int → Option (Bool × Unit)) (t9 : Int) : Option (Bool × Unit) :=
  bif decide (t9 < (↑l'.length : Int)) then
    bif inb t9 l'.length then
      bif decide (l'.getD t9.toNat 0 < 0) then
        some ((false, ()))
      else
        bif decide (l'.getD t9.toNat 0 ≥ n') then
          some ((false, ()))
        else
          g0 (IntKind.i64.wrap (t9 + 1))
    else
      none
  else
    some ((true, ()))
def ref_Inside_p (nf : Nat) (l0 : Int → List Int → Int → Option (Bool × Unit)) (n' : Int) (l' : List Int) : Option (Bool × Unit) :=
  l0 n' l' 0
def ref_Inside_l0 (nf : Nat) (n' : Int) (l' : List Int) : Nat → Int → Option (Bool × Unit)
  | 0, _ => none
  | fu + 1, t9 => ref_Inside_b0 nf  n' l'  (ref_Inside_l0 nf n' l'  fu) t9
def ref_Inside_f (nf : Nat) (n' : Int) (l' : List Int) : Option (Bool × Unit) := ref_Inside_p nf (fun p0 p1 v0 => ref_Inside_l0 nf p0 p1 nf v0) n' l'
noncomputable def ref_Inside_L0 (nf : Nat) : LC (Bool × Unit) := theL (findL tab (ref_Inside_phi nf) (fun _ F => iter nf F) ref_Inside_keep 0 0 (codeOf Try.f15) (fin tab [(Ty.bool, Md.bor false true)] (resL ([]) Try.f15)) (fun _ _ => none) (fin tab [(Ty.bool, Md.bor false true)] (resL ([]) Try.f15)))
def ref_Inside_m0 (n' : Int) (l' : List Int) (t9 : Int) : St := ⟨fresh, [(0, AV.v (Ty.int IntKind.i64) (Md.bor false true) n'), (1, AV.v (Ty.int IntKind.i64).sl (Md.bor true false) l'), (7, AV.v (Ty.int IntKind.i64).sl (Md.bor true false) l'), (8, AV.v (Ty.int IntKind.i64) (Md.bor false true) (↑l'.length : Int)), (9, AV.v (Ty.int IntKind.i64) (Md.bor false true) t9)]⟩
theorem ref_Inside_h0 (nf : Nat)  (n' : Int) (l' : List Int) (fu : Nat) (t9 : Int) : iter (fu + 1) (LC.F tab (ref_Inside_phi nf) (fun _ F => iter nf F) ref_Inside_keep 0 (ref_Inside_L0 nf )) (ref_Inside_m0 n' l' t9) = ref_Inside_b0 nf  n' l'  (fun t9 => iter fu (LC.F tab (ref_Inside_phi nf) (fun _ F => iter nf F) ref_Inside_keep 0 (ref_Inside_L0 nf )) (ref_Inside_m0 n' l' t9)) t9 := by kernel_rfl
theorem ref_Inside_e0 (nf : Nat)  (n' : Int) (l' : List Int) : ∀ (fu : Nat) (t9 : Int), iter fu (LC.F tab (ref_Inside_phi nf) (fun _ F => iter nf F) ref_Inside_keep 0 (ref_Inside_L0 nf )) (ref_Inside_m0 n' l' t9) = ref_Inside_l0 nf n' l'  fu t9 := by
  intro fu
  induction fu with
  | zero => intros; rfl
  | succ fu ih =>
    intro t9
    rw [ref_Inside_h0 nf  n' l' fu t9]
    simp only [ih]
    rfl
theorem ref_Inside_eq (nf : Nat) (n' : Int) (l' : List Int) : runF tab (ref_Inside_phi nf) ref_Inside_keep nf [PT.val (Ty.int IntKind.i64) (Md.bor true false), PT.val (Ty.int IntKind.i64).sl (Md.bor true false)] [(Ty.bool, Md.bor false true)] (resL ([]) Try.f15) (codeOf Try.f15) ⟨n', l', ()⟩ = ref_Inside_f nf n' l' := by
  have h : runF tab (ref_Inside_phi nf) ref_Inside_keep nf [PT.val (Ty.int IntKind.i64) (Md.bor true false), PT.val (Ty.int IntKind.i64).sl (Md.bor true false)] [(Ty.bool, Md.bor false true)] (resL ([]) Try.f15) (codeOf Try.f15) ⟨n', l', ()⟩ = ref_Inside_p nf (fun p0 p1 v0 => iter nf (LC.F tab (ref_Inside_phi nf) (fun _ F => iter nf F) ref_Inside_keep 0 (ref_Inside_L0 nf)) (ref_Inside_m0 p0 p1 v0)) n' l' := by kernel_rfl
  rw [h]
  simp only [ref_Inside_e0]
  rfl
def ref_Inside_F (nf : Nat) (x : denPs [.val (.int .i64) (.bor true false), .val (.sl (.int .i64)) (.bor true false)]) : Option (denL [(.bool, .bor false true)]) := ref_Inside_f nf x.1 x.2.1
def ref_Inside_C (nf : Nat) : Contract := ⟨[.val (.int .i64) (.bor true false), .val (.sl (.int .i64)) (.bor true false)], [(.bool, .bor false true)], ref_Inside_F nf, []⟩
theorem ref_Inside_ok : FnOK Try.prog 15 := ⟨Try.f15, codeOf Try.f15, Try.func15, by kernel_rfl, by kernel_rfl⟩
theorem ref_Inside_holds (nf : Nat) : Contract.Holds Try.prog 15 (ref_Inside_C nf) :=
  fn_holds (Φ := ref_Inside_phi nf) (keep := ref_Inside_keep) (n := nf) ⟨tabs.1, tabs.2, ctx_nil, mixed, bk_ok bkls rfl⟩ (fn := Try.f15) ⟨Try.func15, by kernel_rfl, by kernel_rfl, by kernel_rfl⟩ (fun x => ref_Inside_eq nf x.1 x.2.1)

/-! codemason codemasonref.Has -/
def ref_Has_phi (nf : Nat) : Nat → Option Contract := lookC []
def ref_Has_keep : Nat → List Nat := lookK [(0, [0, 1, 7, 8, 9])]
def ref_Has_b0 (nf : Nat) (l' : List Int) (x : Int) (g0 : Int → Option (Bool × Unit)) (t9 : Int) : Option (Bool × Unit) :=
  bif decide (t9 < (↑l'.length : Int)) then
    bif inb t9 l'.length then
      bif x == l'.getD t9.toNat 0 then
        some ((true, ()))
      else
        g0 (IntKind.i64.wrap (t9 + 1))
    else
      none
  else
    some ((false, ()))
def ref_Has_p (nf : Nat) (l0 : List Int → Int → Int → Option (Bool × Unit)) (l' : List Int) (x : Int) : Option (Bool × Unit) :=
  l0 l' x 0
def ref_Has_l0 (nf : Nat) (l' : List Int) (x : Int) : Nat → Int → Option (Bool × Unit)
  | 0, _ => none
  | fu + 1, t9 => ref_Has_b0 nf  l' x  (ref_Has_l0 nf l' x  fu) t9
def ref_Has_f (nf : Nat) (l' : List Int) (x : Int) : Option (Bool × Unit) := ref_Has_p nf (fun p0 p1 v0 => ref_Has_l0 nf p0 p1 nf v0) l' x
noncomputable def ref_Has_L0 (nf : Nat) : LC (Bool × Unit) := theL (findL tab (ref_Has_phi nf) (fun _ F => iter nf F) ref_Has_keep 0 0 (codeOf Try.f16) (fin tab [(Ty.bool, Md.bor false true)] (resL ([]) Try.f16)) (fun _ _ => none) (fin tab [(Ty.bool, Md.bor false true)] (resL ([]) Try.f16)))
def ref_Has_m0 (l' : List Int) (x : Int) (t9 : Int) : St := ⟨fresh, [(0, AV.v (Ty.int IntKind.i64).sl (Md.bor true false) l'), (1, AV.v (Ty.int IntKind.i64) (Md.bor false true) x), (7, AV.v (Ty.int IntKind.i64).sl (Md.bor true false) l'), (8, AV.v (Ty.int IntKind.i64) (Md.bor false true) (↑l'.length : Int)), (9, AV.v (Ty.int IntKind.i64) (Md.bor false true) t9)]⟩
theorem ref_Has_h0 (nf : Nat)  (l' : List Int) (x : Int) (fu : Nat) (t9 : Int) : iter (fu + 1) (LC.F tab (ref_Has_phi nf) (fun _ F => iter nf F) ref_Has_keep 0 (ref_Has_L0 nf )) (ref_Has_m0 l' x t9) = ref_Has_b0 nf  l' x  (fun t9 => iter fu (LC.F tab (ref_Has_phi nf) (fun _ F => iter nf F) ref_Has_keep 0 (ref_Has_L0 nf )) (ref_Has_m0 l' x t9)) t9 := by kernel_rfl
theorem ref_Has_e0 (nf : Nat)  (l' : List Int) (x : Int) : ∀ (fu : Nat) (t9 : Int), iter fu (LC.F tab (ref_Has_phi nf) (fun _ F => iter nf F) ref_Has_keep 0 (ref_Has_L0 nf )) (ref_Has_m0 l' x t9) = ref_Has_l0 nf l' x  fu t9 := by
  intro fu
  induction fu with
  | zero => intros; rfl
  | succ fu ih =>
    intro t9
    rw [ref_Has_h0 nf  l' x fu t9]
    simp only [ih]
    rfl
theorem ref_Has_eq (nf : Nat) (l' : List Int) (x : Int) : runF tab (ref_Has_phi nf) ref_Has_keep nf [PT.val (Ty.int IntKind.i64).sl (Md.bor true false), PT.val (Ty.int IntKind.i64) (Md.bor true false)] [(Ty.bool, Md.bor false true)] (resL ([]) Try.f16) (codeOf Try.f16) ⟨l', x, ()⟩ = ref_Has_f nf l' x := by
  have h : runF tab (ref_Has_phi nf) ref_Has_keep nf [PT.val (Ty.int IntKind.i64).sl (Md.bor true false), PT.val (Ty.int IntKind.i64) (Md.bor true false)] [(Ty.bool, Md.bor false true)] (resL ([]) Try.f16) (codeOf Try.f16) ⟨l', x, ()⟩ = ref_Has_p nf (fun p0 p1 v0 => iter nf (LC.F tab (ref_Has_phi nf) (fun _ F => iter nf F) ref_Has_keep 0 (ref_Has_L0 nf)) (ref_Has_m0 p0 p1 v0)) l' x := by kernel_rfl
  rw [h]
  simp only [ref_Has_e0]
  rfl
def ref_Has_F (nf : Nat) (x : denPs [.val (.sl (.int .i64)) (.bor true false), .val (.int .i64) (.bor true false)]) : Option (denL [(.bool, .bor false true)]) := ref_Has_f nf x.1 x.2.1
def ref_Has_C (nf : Nat) : Contract := ⟨[.val (.sl (.int .i64)) (.bor true false), .val (.int .i64) (.bor true false)], [(.bool, .bor false true)], ref_Has_F nf, []⟩
theorem ref_Has_ok : FnOK Try.prog 16 := ⟨Try.f16, codeOf Try.f16, Try.func16, by kernel_rfl, by kernel_rfl⟩
theorem ref_Has_holds (nf : Nat) : Contract.Holds Try.prog 16 (ref_Has_C nf) :=
  fn_holds (Φ := ref_Has_phi nf) (keep := ref_Has_keep) (n := nf) ⟨tabs.1, tabs.2, ctx_nil, mixed, bk_ok bkls rfl⟩ (fn := Try.f16) ⟨Try.func16, by kernel_rfl, by kernel_rfl, by kernel_rfl⟩ (fun x => ref_Has_eq nf x.1 x.2.1)

/-! codemason codemasonref.Reach -/
def ref_Reach_phi (nf : Nat) : Nat → Option Contract := lookC [(16, ref_Has_C nf)]
def ref_Reach_keep : Nat → List Nat := lookK [(2, [0, 2, 7, 8, 15, 22, 27, 28, 29, 30]), (0, [0, 2, 7, 8, 15])]
def ref_Reach_b0 (nf : Nat) (l2 : List (List Int) → Int → Int → List Int → List Int → Int → Option (List Int × Unit)) (next : List (List Int)) (without : Int) (g0 : List Int → Int → Option (List Int × Unit)) (here : List Int) (k' : Int) : Option (List Int × Unit) :=
  bif decide (k' < (↑here.length : Int)) then
    bif inb k' here.length then
      bif inb (here.getD k'.toNat 0) next.length then
        l2 next without k' here here 0
      else
        none
    else
      none
  else
    some ((here, ()))
def ref_Reach_b2 (nf : Nat) (next : List (List Int)) (without : Int) (k' : Int) (here : List Int) (g0 : List Int → Int → Option (List Int × Unit)) (g2 : List Int → Int → Option (List Int × Unit)) (here2 : List Int) (t30 : Int) : Option (List Int × Unit) :=
  bif decide (t30 < (↑(List.length (next.getD (Int.toNat (here.getD k'.toNat 0)) [])) : Int)) then
    bif inb t30 (List.length (next.getD (Int.toNat (here.getD k'.toNat 0)) [])) then
      bif List.getD (next.getD (Int.toNat (here.getD k'.toNat 0)) []) t30.toNat 0 != without then
        Option.bind (ref_Has_f nf here2 (List.getD (next.getD (Int.toNat (here.getD k'.toNat 0)) []) t30.toNat 0)) fun r =>
        bif !r.fst then
          bif bimp false ![List.getD (next.getD (Int.toNat (here.getD k'.toNat 0)) []) t30.toNat 0].isEmpty && (here2.length + [List.getD (next.getD (Int.toNat (here.getD k'.toNat 0)) []) t30.toNat 0].length).ble lim then
            g2 (here2 ++ [List.getD (next.getD (Int.toNat (here.getD k'.toNat 0)) []) t30.toNat 0]) (IntKind.i64.wrap (t30 + 1))
          else
            none
        else
          g2 here2 (IntKind.i64.wrap (t30 + 1))
      else
        g2 here2 (IntKind.i64.wrap (t30 + 1))
    else
      none
  else
    g0 here2 (IntKind.i64.wrap (k' + 1))
def ref_Reach_p (nf : Nat) (l0 : List (List Int) → Int → List Int → Int → Option (List Int × Unit)) (next : List (List Int)) (i : Int) (without : Int) : Option (List Int × Unit) :=
  bif i == without then
    some (([], ()))
  else
    l0 next without [i] 0
def ref_Reach_l2 (nf : Nat) (next : List (List Int)) (without : Int) (k' : Int) (here : List Int) (g0 : List Int → Int → Option (List Int × Unit)) : Nat → List Int → Int → Option (List Int × Unit)
  | 0, _, _ => none
  | fu + 1, here2, t30 => ref_Reach_b2 nf  next without k' here g0 (ref_Reach_l2 nf next without k' here g0 fu) here2 t30
def ref_Reach_l0 (nf : Nat) (next : List (List Int)) (without : Int) : Nat → List Int → Int → Option (List Int × Unit)
  | 0, _, _ => none
  | fu + 1, here, k' => ref_Reach_b0 nf (fun _ _ p2 p3 v0 v1 => ref_Reach_l2 nf next without p2 p3 (fun here k' => ref_Reach_l0 nf next without  fu here k') nf v0 v1) next without  (ref_Reach_l0 nf next without  fu) here k'
def ref_Reach_f (nf : Nat) (next : List (List Int)) (i : Int) (without : Int) : Option (List Int × Unit) := ref_Reach_p nf (fun p0 p1 v0 v1 => ref_Reach_l0 nf p0 p1 nf v0 v1) next i without
noncomputable def ref_Reach_L0 (nf : Nat) : LC (List Int × Unit) := theL (findL tab (ref_Reach_phi nf) (fun _ F => iter nf F) ref_Reach_keep 0 0 (codeOf Try.f55) (fin tab [((Ty.int IntKind.i64).sl, Md.own false (Md.bor false false))] (resL ([]) Try.f55)) (fun _ _ => none) (fin tab [((Ty.int IntKind.i64).sl, Md.own false (Md.bor false false))] (resL ([]) Try.f55)))
def ref_Reach_m0 (next : List (List Int)) (without : Int) (here : List Int) (k' : Int) : St := ⟨fresh, [(0, AV.v (Ty.int IntKind.i64).sl.sl (Md.bor true false) next), (2, AV.v (Ty.int IntKind.i64) (Md.bor false true) without), (7, AV.ow 500007 (Ty.int IntKind.i64).sl (Md.own false (Md.bor false false)) here), (8, AV.v (Ty.int IntKind.i64) (Md.bor false true) k'), (15, AV.dead)]⟩
noncomputable def ref_Reach_L2 (nf : Nat) (G0 : St → Option (List Int × Unit)) : LC (List Int × Unit) := theL (findL tab (ref_Reach_phi nf) (fun _ F => iter nf F) ref_Reach_keep 2 0 (ref_Reach_L0 nf ).c (fun st => norm (ref_Reach_keep 0) st G0) (ref_Reach_L0 nf ).Kx (ref_Reach_L0 nf ).Kr)
def ref_Reach_m2 (next : List (List Int)) (without : Int) (k' : Int) (here : List Int) (here2 : List Int) (t30 : Int) : St := ⟨fresh, [(0, AV.v (Ty.int IntKind.i64).sl.sl (Md.bor true false) next), (2, AV.v (Ty.int IntKind.i64) (Md.bor false true) without), (7, AV.ow 500007 (Ty.int IntKind.i64).sl (Md.own false (Md.bor false false)) here2), (8, AV.v (Ty.int IntKind.i64) (Md.bor false true) k'), (15, AV.dead), (22, AV.v (Ty.int IntKind.i64).sl.sl (Md.bor true false) next), (27, AV.rop (Ty.int IntKind.i64).sl (Md.bor true false) (next.getD (Int.toNat (here.getD k'.toNat 0)) [])), (28, AV.v (Ty.int IntKind.i64).sl (Md.bor true false) (next.getD (Int.toNat (here.getD k'.toNat 0)) [])), (29, AV.v (Ty.int IntKind.i64) (Md.bor false true) (↑(List.length (next.getD (Int.toNat (here.getD k'.toNat 0)) [])) : Int)), (30, AV.v (Ty.int IntKind.i64) (Md.bor false true) t30)]⟩
theorem ref_Reach_h2 (nf : Nat) (G0 : St → Option (List Int × Unit)) (next : List (List Int)) (without : Int) (k' : Int) (here : List Int) (fu : Nat) (here2 : List Int) (t30 : Int) : iter (fu + 1) (LC.F tab (ref_Reach_phi nf) (fun _ F => iter nf F) ref_Reach_keep 2 (ref_Reach_L2 nf G0)) (ref_Reach_m2 next without k' here here2 t30) = ref_Reach_b2 nf  next without k' here (fun here k' => G0 (ref_Reach_m0 next without here k')) (fun here2 t30 => iter fu (LC.F tab (ref_Reach_phi nf) (fun _ F => iter nf F) ref_Reach_keep 2 (ref_Reach_L2 nf G0)) (ref_Reach_m2 next without k' here here2 t30)) here2 t30 := by kernel_rfl
theorem ref_Reach_e2 (nf : Nat) (G0 : St → Option (List Int × Unit)) (next : List (List Int)) (without : Int) (k' : Int) (here : List Int) : ∀ (fu : Nat) (here2 : List Int) (t30 : Int), iter fu (LC.F tab (ref_Reach_phi nf) (fun _ F => iter nf F) ref_Reach_keep 2 (ref_Reach_L2 nf G0)) (ref_Reach_m2 next without k' here here2 t30) = ref_Reach_l2 nf next without k' here (fun here k' => G0 (ref_Reach_m0 next without here k')) fu here2 t30 := by
  intro fu
  induction fu with
  | zero => intros; rfl
  | succ fu ih =>
    intro here2 t30
    rw [ref_Reach_h2 nf G0 next without k' here fu here2 t30]
    simp only [ih]
    rfl
theorem ref_Reach_h0 (nf : Nat)  (next : List (List Int)) (without : Int) (fu : Nat) (here : List Int) (k' : Int) : iter (fu + 1) (LC.F tab (ref_Reach_phi nf) (fun _ F => iter nf F) ref_Reach_keep 0 (ref_Reach_L0 nf )) (ref_Reach_m0 next without here k') = ref_Reach_b0 nf (fun _ _ p2 p3 v0 v1 => iter nf (LC.F tab (ref_Reach_phi nf) (fun _ F => iter nf F) ref_Reach_keep 2 (ref_Reach_L2 nf (iter fu (LC.F tab (ref_Reach_phi nf) (fun _ F => iter nf F) ref_Reach_keep 0 (ref_Reach_L0 nf ))))) (ref_Reach_m2 next without p2 p3 v0 v1)) next without  (fun here k' => iter fu (LC.F tab (ref_Reach_phi nf) (fun _ F => iter nf F) ref_Reach_keep 0 (ref_Reach_L0 nf )) (ref_Reach_m0 next without here k')) here k' := by kernel_rfl
theorem ref_Reach_e0 (nf : Nat)  (next : List (List Int)) (without : Int) : ∀ (fu : Nat) (here : List Int) (k' : Int), iter fu (LC.F tab (ref_Reach_phi nf) (fun _ F => iter nf F) ref_Reach_keep 0 (ref_Reach_L0 nf )) (ref_Reach_m0 next without here k') = ref_Reach_l0 nf next without  fu here k' := by
  intro fu
  induction fu with
  | zero => intros; rfl
  | succ fu ih =>
    intro here k'
    rw [ref_Reach_h0 nf  next without fu here k']
    simp only [ih, ref_Reach_e2]
    rfl
theorem ref_Reach_eq (nf : Nat) (next : List (List Int)) (i : Int) (without : Int) : runF tab (ref_Reach_phi nf) ref_Reach_keep nf [PT.val (Ty.int IntKind.i64).sl.sl (Md.bor true false), PT.val (Ty.int IntKind.i64) (Md.bor true false), PT.val (Ty.int IntKind.i64) (Md.bor true false)] [((Ty.int IntKind.i64).sl, Md.own false (Md.bor false false))] (resL ([]) Try.f55) (codeOf Try.f55) ⟨next, i, without, ()⟩ = ref_Reach_f nf next i without := by
  have h : runF tab (ref_Reach_phi nf) ref_Reach_keep nf [PT.val (Ty.int IntKind.i64).sl.sl (Md.bor true false), PT.val (Ty.int IntKind.i64) (Md.bor true false), PT.val (Ty.int IntKind.i64) (Md.bor true false)] [((Ty.int IntKind.i64).sl, Md.own false (Md.bor false false))] (resL ([]) Try.f55) (codeOf Try.f55) ⟨next, i, without, ()⟩ = ref_Reach_p nf (fun p0 p1 v0 v1 => iter nf (LC.F tab (ref_Reach_phi nf) (fun _ F => iter nf F) ref_Reach_keep 0 (ref_Reach_L0 nf)) (ref_Reach_m0 p0 p1 v0 v1)) next i without := by kernel_rfl
  rw [h]
  simp only [ref_Reach_e0]
  rfl
def ref_Reach_F (nf : Nat) (x : denPs [.val (.sl (.sl (.int .i64))) (.bor true false), .val (.int .i64) (.bor true false), .val (.int .i64) (.bor true false)]) : Option (denL [(.sl (.int .i64), .own false (.bor false false))]) := ref_Reach_f nf x.1 x.2.1 x.2.2.1
def ref_Reach_C (nf : Nat) : Contract := ⟨[.val (.sl (.sl (.int .i64))) (.bor true false), .val (.int .i64) (.bor true false), .val (.int .i64) (.bor true false)], [(.sl (.int .i64), .own false (.bor false false))], ref_Reach_F nf, []⟩
theorem ref_Reach_ok : FnOK Try.prog 55 := ⟨Try.f55, codeOf Try.f55, Try.func55, by kernel_rfl, by kernel_rfl⟩
theorem ref_Reach_holds (nf : Nat) : Contract.Holds Try.prog 55 (ref_Reach_C nf) :=
  fn_holds (Φ := ref_Reach_phi nf) (keep := ref_Reach_keep) (n := nf) ⟨tabs.1, tabs.2, (ctx_cons ref_Has_ok (ref_Has_holds nf) ctx_nil), mixed, bk_ok bkls rfl⟩ (fn := Try.f55) ⟨Try.func55, by kernel_rfl, by kernel_rfl, by kernel_rfl⟩ (fun x => ref_Reach_eq nf x.1 x.2.1 x.2.2.1)

/-! codemason codemasonref.Behinds -/
def ref_Behinds_tab : Tab := ⟨lookT tyL, lookM ([(22, .own false (.own true (.bor false true)))] ++ mdL), hasT [77, 132], hasT [9, 10, 11], fun _ => none, lookB bkl⟩
theorem ref_Behinds_tabs : TabOK Try.prog ref_Behinds_tab ∧ EqOK Try.prog ref_Behinds_tab := tab_ok (by kernel_rfl) (by kernel_rfl)
def ref_Behinds_phi (nf : Nat) : Nat → Option Contract := lookC []
def ref_Behinds_keep : Nat → List Nat := lookK [(0, [1, 5, 9, 10, 11, 12])]
def ref_Behinds_b0 (nf : Nat) (pairs : List (Int × Int × Unit)) (g0 : List (List Int) → Int → Option (List (List Int) × Unit)) (out : List (List Int)) (t12 : Int) : Option (List (List Int) × Unit) :=
  bif decide (t12 < (↑pairs.length : Int)) then
    bif inb t12 pairs.length then
      bif inb (pairs.getD t12.toNat (0, 0, ())).fst out.length then
        bif ![(pairs.getD t12.toNat (0, 0, ())).snd.fst].isEmpty && (List.length (out.getD (Int.toNat (pairs.getD t12.toNat (0, 0, ())).fst) []) + [(pairs.getD t12.toNat (0, 0, ())).snd.fst].length).ble lim then
          bif inb (pairs.getD t12.toNat (0, 0, ())).fst out.length then
            bif decide ([Stp.el (Int.toNat (pairs.getD t12.toNat (0, 0, ())).fst)] = [] ++ [Stp.el (Int.toNat (pairs.getD t12.toNat (0, 0, ())).fst)]) then
              g0 (out.set (Int.toNat (pairs.getD t12.toNat (0, 0, ())).fst) (out.getD (Int.toNat (pairs.getD t12.toNat (0, 0, ())).fst) [] ++ [(pairs.getD t12.toNat (0, 0, ())).snd.fst])) (IntKind.i64.wrap (t12 + 1))
            else
              none
          else
            none
        else
          none
      else
        none
    else
      none
  else
    some ((out, ()))
def ref_Behinds_p (nf : Nat) (l0 : List (Int × Int × Unit) → List (List Int) → Int → Option (List (List Int) × Unit)) (n' : Int) (pairs : List (Int × Int × Unit)) : Option (List (List Int) × Unit) :=
  bif decide (0 ≤ n') && decide (n' ≤ n') && decide (n' ≤ (↑lim : Int)) then
    l0 pairs (List.replicate n'.toNat []) 0
  else
    none
def ref_Behinds_l0 (nf : Nat) (pairs : List (Int × Int × Unit)) : Nat → List (List Int) → Int → Option (List (List Int) × Unit)
  | 0, _, _ => none
  | fu + 1, out, t12 => ref_Behinds_b0 nf  pairs  (ref_Behinds_l0 nf pairs  fu) out t12
def ref_Behinds_f (nf : Nat) (n' : Int) (pairs : List (Int × Int × Unit)) : Option (List (List Int) × Unit) := ref_Behinds_p nf (fun p0 v0 v1 => ref_Behinds_l0 nf p0 nf v0 v1) n' pairs
noncomputable def ref_Behinds_L0 (nf : Nat) : LC (List (List Int) × Unit) := theL (findL ref_Behinds_tab (ref_Behinds_phi nf) (fun _ F => iter nf F) ref_Behinds_keep 0 0 (codeOf Try.f84) (fin ref_Behinds_tab [((Ty.int IntKind.i64).sl.sl, Md.own false (Md.bor false false))] (resL ([]) Try.f84)) (fun _ _ => none) (fin ref_Behinds_tab [((Ty.int IntKind.i64).sl.sl, Md.own false (Md.bor false false))] (resL ([]) Try.f84)))
def ref_Behinds_m0 (pairs : List (Int × Int × Unit)) (out : List (List Int)) (t12 : Int) : St := ⟨fresh, [(1, AV.v ((Ty.int IntKind.i64).pair ((Ty.int IntKind.i64).pair Ty.unit)).sl (Md.bor true false) pairs), (5, AV.ow 500005 (Ty.int IntKind.i64).sl.sl (Md.own false (Md.own true (Md.bor false true))) out), (9, AV.dead), (10, AV.v ((Ty.int IntKind.i64).pair ((Ty.int IntKind.i64).pair Ty.unit)).sl (Md.bor true false) pairs), (11, AV.v (Ty.int IntKind.i64) (Md.bor false true) (↑pairs.length : Int)), (12, AV.v (Ty.int IntKind.i64) (Md.bor false true) t12)]⟩
theorem ref_Behinds_h0 (nf : Nat)  (pairs : List (Int × Int × Unit)) (fu : Nat) (out : List (List Int)) (t12 : Int) : iter (fu + 1) (LC.F ref_Behinds_tab (ref_Behinds_phi nf) (fun _ F => iter nf F) ref_Behinds_keep 0 (ref_Behinds_L0 nf )) (ref_Behinds_m0 pairs out t12) = ref_Behinds_b0 nf  pairs  (fun out t12 => iter fu (LC.F ref_Behinds_tab (ref_Behinds_phi nf) (fun _ F => iter nf F) ref_Behinds_keep 0 (ref_Behinds_L0 nf )) (ref_Behinds_m0 pairs out t12)) out t12 := by kernel_rfl
theorem ref_Behinds_e0 (nf : Nat)  (pairs : List (Int × Int × Unit)) : ∀ (fu : Nat) (out : List (List Int)) (t12 : Int), iter fu (LC.F ref_Behinds_tab (ref_Behinds_phi nf) (fun _ F => iter nf F) ref_Behinds_keep 0 (ref_Behinds_L0 nf )) (ref_Behinds_m0 pairs out t12) = ref_Behinds_l0 nf pairs  fu out t12 := by
  intro fu
  induction fu with
  | zero => intros; rfl
  | succ fu ih =>
    intro out t12
    rw [ref_Behinds_h0 nf  pairs fu out t12]
    simp only [ih]
    rfl
theorem ref_Behinds_eq (nf : Nat) (n' : Int) (pairs : List (Int × Int × Unit)) : runF ref_Behinds_tab (ref_Behinds_phi nf) ref_Behinds_keep nf [PT.val (Ty.int IntKind.i64) (Md.bor true false), PT.val ((Ty.int IntKind.i64).pair ((Ty.int IntKind.i64).pair Ty.unit)).sl (Md.bor true false)] [((Ty.int IntKind.i64).sl.sl, Md.own false (Md.bor false false))] (resL ([]) Try.f84) (codeOf Try.f84) ⟨n', pairs, ()⟩ = ref_Behinds_f nf n' pairs := by
  have h : runF ref_Behinds_tab (ref_Behinds_phi nf) ref_Behinds_keep nf [PT.val (Ty.int IntKind.i64) (Md.bor true false), PT.val ((Ty.int IntKind.i64).pair ((Ty.int IntKind.i64).pair Ty.unit)).sl (Md.bor true false)] [((Ty.int IntKind.i64).sl.sl, Md.own false (Md.bor false false))] (resL ([]) Try.f84) (codeOf Try.f84) ⟨n', pairs, ()⟩ = ref_Behinds_p nf (fun p0 v0 v1 => iter nf (LC.F ref_Behinds_tab (ref_Behinds_phi nf) (fun _ F => iter nf F) ref_Behinds_keep 0 (ref_Behinds_L0 nf)) (ref_Behinds_m0 p0 v0 v1)) n' pairs := by kernel_rfl
  rw [h]
  simp only [ref_Behinds_e0]
  rfl
def ref_Behinds_F (nf : Nat) (x : denPs [.val (.int .i64) (.bor true false), .val (.sl (.pair (.int .i64) (.pair (.int .i64) (.unit)))) (.bor true false)]) : Option (denL [(.sl (.sl (.int .i64)), .own false (.bor false false))]) := ref_Behinds_f nf x.1 x.2.1
def ref_Behinds_C (nf : Nat) : Contract := ⟨[.val (.int .i64) (.bor true false), .val (.sl (.pair (.int .i64) (.pair (.int .i64) (.unit)))) (.bor true false)], [(.sl (.sl (.int .i64)), .own false (.bor false false))], ref_Behinds_F nf, []⟩
theorem ref_Behinds_ok : FnOK Try.prog 84 := ⟨Try.f84, codeOf Try.f84, Try.func84, by kernel_rfl, by kernel_rfl⟩
theorem ref_Behinds_holds (nf : Nat) : Contract.Holds Try.prog 84 (ref_Behinds_C nf) :=
  fn_holds (Φ := ref_Behinds_phi nf) (keep := ref_Behinds_keep) (n := nf) ⟨ref_Behinds_tabs.1, ref_Behinds_tabs.2, ctx_nil, mixed, bk_ok bkls rfl⟩ (fn := Try.f84) ⟨Try.func84, by kernel_rfl, by kernel_rfl, by kernel_rfl⟩ (fun x => ref_Behinds_eq nf x.1 x.2.1)

/-! codemason codemasonref.TasksCheck -/
def ref_TasksCheck_phi (nf : Nat) : Nat → Option Contract := lookC [(15, ref_Inside_C nf), (16, ref_Has_C nf), (55, ref_Reach_C nf), (84, ref_Behinds_C nf)]
def ref_TasksCheck_keep : Nat → List Nat := lookK [(4, [0, 7, 8, 39, 45, 47, 48, 49, 50]), (2, [0, 7, 8, 39]), (0, [0, 1, 22, 23, 24])]
def ref_TasksCheck_b0 (nf : Nat) (l2 : Int → List (List Int) → Int → Option (Int × Unit)) (n' : Int) (pairs : List (Int × Int × Unit)) (g0 : Int → Option (Int × Unit)) (t24 : Int) : Option (Int × Unit) :=
  bif decide (t24 < (↑pairs.length : Int)) then
    bif inb t24 pairs.length then
      Option.bind (ref_Inside_f nf n' ([(pairs.getD t24.toNat (0, 0, ())).fst, (pairs.getD t24.toNat (0, 0, ())).snd.fst])) fun r =>
      bif !r.fst then
        some ((2, ()))
      else
        g0 (IntKind.i64.wrap (t24 + 1))
    else
      none
  else
    Option.bind (ref_Behinds_f nf n' pairs) fun r2 =>
    l2 n' r2.fst 0
def ref_TasksCheck_b2 (nf : Nat) (l4 : Int → Int → List (List Int) → List (List Int) → Int → Option (Int × Unit)) (n' : Int) (g2 : List (List Int) → Int → Option (Int × Unit)) (next : List (List Int)) (i : Int) : Option (Int × Unit) :=
  bif decide (i < n') then
    bif inb i next.length then
      l4 n' i next next 0
    else
      none
  else
    some ((0, ()))
def ref_TasksCheck_b4 (nf : Nat) (n' : Int) (i : Int) (next : List (List Int)) (g2 : List (List Int) → Int → Option (Int × Unit)) (g4 : List (List Int) → Int → Option (Int × Unit)) (next2 : List (List Int)) (t50 : Int) : Option (Int × Unit) :=
  bif decide (t50 < (↑(List.length (next.getD i.toNat [])) : Int)) then
    bif inb t50 (List.length (next.getD i.toNat [])) then
      Option.bind (ref_Reach_f nf next2 (List.getD (next.getD i.toNat []) t50.toNat 0) (-1)) fun r3 =>
      Option.bind (ref_Has_f nf r3.fst i) fun r4 =>
      bif r4.fst then
        some ((3, ()))
      else
        g4 next2 (IntKind.i64.wrap (t50 + 1))
    else
      none
  else
    g2 next2 (IntKind.i64.wrap (i + 1))
def ref_TasksCheck_p (nf : Nat) (l0 : Int → List (Int × Int × Unit) → Int → Option (Int × Unit)) (n' : Int) (pairs : List (Int × Int × Unit)) : Option (Int × Unit) :=
  bif decide (n' < 1) then
    some ((1, ()))
  else
    bif decide (n' > 8) then
      some ((1, ()))
    else
      bif decide ((↑pairs.length : Int) > 28) then
        some ((1, ()))
      else
        l0 n' pairs 0
def ref_TasksCheck_l4 (nf : Nat) (n' : Int) (i : Int) (next : List (List Int)) (g2 : List (List Int) → Int → Option (Int × Unit)) : Nat → List (List Int) → Int → Option (Int × Unit)
  | 0, _, _ => none
  | fu + 1, next2, t50 => ref_TasksCheck_b4 nf  n' i next g2 (ref_TasksCheck_l4 nf n' i next g2 fu) next2 t50
def ref_TasksCheck_l2 (nf : Nat) (n' : Int) : Nat → List (List Int) → Int → Option (Int × Unit)
  | 0, _, _ => none
  | fu + 1, next, i => ref_TasksCheck_b2 nf (fun _ p1 p2 v0 v1 => ref_TasksCheck_l4 nf n' p1 p2 (fun next i => ref_TasksCheck_l2 nf n'  fu next i) nf v0 v1) n'  (ref_TasksCheck_l2 nf n'  fu) next i
def ref_TasksCheck_l0 (nf : Nat) (n' : Int) (pairs : List (Int × Int × Unit)) : Nat → Int → Option (Int × Unit)
  | 0, _ => none
  | fu + 1, t24 => ref_TasksCheck_b0 nf (fun _ v0 v1 => ref_TasksCheck_l2 nf n'  nf v0 v1) n' pairs  (ref_TasksCheck_l0 nf n' pairs  fu) t24
def ref_TasksCheck_f (nf : Nat) (n' : Int) (pairs : List (Int × Int × Unit)) : Option (Int × Unit) := ref_TasksCheck_p nf (fun p0 p1 v0 => ref_TasksCheck_l0 nf p0 p1 nf v0) n' pairs
noncomputable def ref_TasksCheck_L0 (nf : Nat) : LC (Int × Unit) := theL (findL tab (ref_TasksCheck_phi nf) (fun _ F => iter nf F) ref_TasksCheck_keep 0 0 (codeOf Try.f70) (fin tab [(Ty.int IntKind.i64, Md.bor false true)] (resL ([]) Try.f70)) (fun _ _ => none) (fin tab [(Ty.int IntKind.i64, Md.bor false true)] (resL ([]) Try.f70)))
def ref_TasksCheck_m0 (n' : Int) (pairs : List (Int × Int × Unit)) (t24 : Int) : St := ⟨fresh, [(0, AV.v (Ty.int IntKind.i64) (Md.bor false true) n'), (1, AV.v ((Ty.int IntKind.i64).pair ((Ty.int IntKind.i64).pair Ty.unit)).sl (Md.bor true false) pairs), (22, AV.v ((Ty.int IntKind.i64).pair ((Ty.int IntKind.i64).pair Ty.unit)).sl (Md.bor true false) pairs), (23, AV.v (Ty.int IntKind.i64) (Md.bor false true) (↑pairs.length : Int)), (24, AV.v (Ty.int IntKind.i64) (Md.bor false true) t24)]⟩
noncomputable def ref_TasksCheck_L2 (nf : Nat) : LC (Int × Unit) := theL (findL tab (ref_TasksCheck_phi nf) (fun _ F => iter nf F) ref_TasksCheck_keep 2 0 (codeOf Try.f70) (fin tab [(Ty.int IntKind.i64, Md.bor false true)] (resL ([]) Try.f70)) (fun _ _ => none) (fin tab [(Ty.int IntKind.i64, Md.bor false true)] (resL ([]) Try.f70)))
def ref_TasksCheck_m2 (n' : Int) (next : List (List Int)) (i : Int) : St := ⟨fresh, [(0, AV.v (Ty.int IntKind.i64) (Md.bor false true) n'), (7, AV.ow 500007 (Ty.int IntKind.i64).sl.sl (Md.own false (Md.bor false false)) next), (8, AV.v (Ty.int IntKind.i64) (Md.bor false true) i), (39, AV.dead)]⟩
noncomputable def ref_TasksCheck_L4 (nf : Nat) (G2 : St → Option (Int × Unit)) : LC (Int × Unit) := theL (findL tab (ref_TasksCheck_phi nf) (fun _ F => iter nf F) ref_TasksCheck_keep 4 2 (ref_TasksCheck_L2 nf ).c (fun st => norm (ref_TasksCheck_keep 2) st G2) (ref_TasksCheck_L2 nf ).Kx (ref_TasksCheck_L2 nf ).Kr)
def ref_TasksCheck_m4 (n' : Int) (i : Int) (next : List (List Int)) (next2 : List (List Int)) (t50 : Int) : St := ⟨fresh, [(0, AV.v (Ty.int IntKind.i64) (Md.bor false true) n'), (7, AV.ow 500007 (Ty.int IntKind.i64).sl.sl (Md.own false (Md.bor false false)) next2), (8, AV.v (Ty.int IntKind.i64) (Md.bor false true) i), (39, AV.dead), (45, AV.al 7 500007 []), (47, AV.pl 7 500007 [Stp.el i.toNat]), (48, AV.v (Ty.int IntKind.i64).sl (Md.bor false false) (next.getD i.toNat [])), (49, AV.v (Ty.int IntKind.i64) (Md.bor false true) (↑(List.length (next.getD i.toNat [])) : Int)), (50, AV.v (Ty.int IntKind.i64) (Md.bor false true) t50)]⟩
theorem ref_TasksCheck_h4 (nf : Nat) (G2 : St → Option (Int × Unit)) (n' : Int) (i : Int) (next : List (List Int)) (fu : Nat) (next2 : List (List Int)) (t50 : Int) : iter (fu + 1) (LC.F tab (ref_TasksCheck_phi nf) (fun _ F => iter nf F) ref_TasksCheck_keep 4 (ref_TasksCheck_L4 nf G2)) (ref_TasksCheck_m4 n' i next next2 t50) = ref_TasksCheck_b4 nf  n' i next (fun next i => G2 (ref_TasksCheck_m2 n' next i)) (fun next2 t50 => iter fu (LC.F tab (ref_TasksCheck_phi nf) (fun _ F => iter nf F) ref_TasksCheck_keep 4 (ref_TasksCheck_L4 nf G2)) (ref_TasksCheck_m4 n' i next next2 t50)) next2 t50 := by kernel_rfl
theorem ref_TasksCheck_e4 (nf : Nat) (G2 : St → Option (Int × Unit)) (n' : Int) (i : Int) (next : List (List Int)) : ∀ (fu : Nat) (next2 : List (List Int)) (t50 : Int), iter fu (LC.F tab (ref_TasksCheck_phi nf) (fun _ F => iter nf F) ref_TasksCheck_keep 4 (ref_TasksCheck_L4 nf G2)) (ref_TasksCheck_m4 n' i next next2 t50) = ref_TasksCheck_l4 nf n' i next (fun next i => G2 (ref_TasksCheck_m2 n' next i)) fu next2 t50 := by
  intro fu
  induction fu with
  | zero => intros; rfl
  | succ fu ih =>
    intro next2 t50
    rw [ref_TasksCheck_h4 nf G2 n' i next fu next2 t50]
    simp only [ih]
    rfl
theorem ref_TasksCheck_h2 (nf : Nat)  (n' : Int) (fu : Nat) (next : List (List Int)) (i : Int) : iter (fu + 1) (LC.F tab (ref_TasksCheck_phi nf) (fun _ F => iter nf F) ref_TasksCheck_keep 2 (ref_TasksCheck_L2 nf )) (ref_TasksCheck_m2 n' next i) = ref_TasksCheck_b2 nf (fun _ p1 p2 v0 v1 => iter nf (LC.F tab (ref_TasksCheck_phi nf) (fun _ F => iter nf F) ref_TasksCheck_keep 4 (ref_TasksCheck_L4 nf (iter fu (LC.F tab (ref_TasksCheck_phi nf) (fun _ F => iter nf F) ref_TasksCheck_keep 2 (ref_TasksCheck_L2 nf ))))) (ref_TasksCheck_m4 n' p1 p2 v0 v1)) n'  (fun next i => iter fu (LC.F tab (ref_TasksCheck_phi nf) (fun _ F => iter nf F) ref_TasksCheck_keep 2 (ref_TasksCheck_L2 nf )) (ref_TasksCheck_m2 n' next i)) next i := by kernel_rfl
theorem ref_TasksCheck_e2 (nf : Nat)  (n' : Int) : ∀ (fu : Nat) (next : List (List Int)) (i : Int), iter fu (LC.F tab (ref_TasksCheck_phi nf) (fun _ F => iter nf F) ref_TasksCheck_keep 2 (ref_TasksCheck_L2 nf )) (ref_TasksCheck_m2 n' next i) = ref_TasksCheck_l2 nf n'  fu next i := by
  intro fu
  induction fu with
  | zero => intros; rfl
  | succ fu ih =>
    intro next i
    rw [ref_TasksCheck_h2 nf  n' fu next i]
    simp only [ih, ref_TasksCheck_e4]
    rfl
theorem ref_TasksCheck_h0 (nf : Nat)  (n' : Int) (pairs : List (Int × Int × Unit)) (fu : Nat) (t24 : Int) : iter (fu + 1) (LC.F tab (ref_TasksCheck_phi nf) (fun _ F => iter nf F) ref_TasksCheck_keep 0 (ref_TasksCheck_L0 nf )) (ref_TasksCheck_m0 n' pairs t24) = ref_TasksCheck_b0 nf (fun _ v0 v1 => iter nf (LC.F tab (ref_TasksCheck_phi nf) (fun _ F => iter nf F) ref_TasksCheck_keep 2 (ref_TasksCheck_L2 nf )) (ref_TasksCheck_m2 n' v0 v1)) n' pairs  (fun t24 => iter fu (LC.F tab (ref_TasksCheck_phi nf) (fun _ F => iter nf F) ref_TasksCheck_keep 0 (ref_TasksCheck_L0 nf )) (ref_TasksCheck_m0 n' pairs t24)) t24 := by kernel_rfl
theorem ref_TasksCheck_e0 (nf : Nat)  (n' : Int) (pairs : List (Int × Int × Unit)) : ∀ (fu : Nat) (t24 : Int), iter fu (LC.F tab (ref_TasksCheck_phi nf) (fun _ F => iter nf F) ref_TasksCheck_keep 0 (ref_TasksCheck_L0 nf )) (ref_TasksCheck_m0 n' pairs t24) = ref_TasksCheck_l0 nf n' pairs  fu t24 := by
  intro fu
  induction fu with
  | zero => intros; rfl
  | succ fu ih =>
    intro t24
    rw [ref_TasksCheck_h0 nf  n' pairs fu t24]
    simp only [ih, ref_TasksCheck_e2]
    rfl
theorem ref_TasksCheck_eq (nf : Nat) (n' : Int) (pairs : List (Int × Int × Unit)) : runF tab (ref_TasksCheck_phi nf) ref_TasksCheck_keep nf [PT.val (Ty.int IntKind.i64) (Md.bor true false), PT.val ((Ty.int IntKind.i64).pair ((Ty.int IntKind.i64).pair Ty.unit)).sl (Md.bor true false)] [(Ty.int IntKind.i64, Md.bor false true)] (resL ([]) Try.f70) (codeOf Try.f70) ⟨n', pairs, ()⟩ = ref_TasksCheck_f nf n' pairs := by
  have h : runF tab (ref_TasksCheck_phi nf) ref_TasksCheck_keep nf [PT.val (Ty.int IntKind.i64) (Md.bor true false), PT.val ((Ty.int IntKind.i64).pair ((Ty.int IntKind.i64).pair Ty.unit)).sl (Md.bor true false)] [(Ty.int IntKind.i64, Md.bor false true)] (resL ([]) Try.f70) (codeOf Try.f70) ⟨n', pairs, ()⟩ = ref_TasksCheck_p nf (fun p0 p1 v0 => iter nf (LC.F tab (ref_TasksCheck_phi nf) (fun _ F => iter nf F) ref_TasksCheck_keep 0 (ref_TasksCheck_L0 nf)) (ref_TasksCheck_m0 p0 p1 v0)) n' pairs := by kernel_rfl
  rw [h]
  simp only [ref_TasksCheck_e0]
  rfl
def ref_TasksCheck_F (nf : Nat) (x : denPs [.val (.int .i64) (.bor true false), .val (.sl (.pair (.int .i64) (.pair (.int .i64) (.unit)))) (.bor true false)]) : Option (denL [(.int .i64, .bor false true)]) := ref_TasksCheck_f nf x.1 x.2.1
def ref_TasksCheck_C (nf : Nat) : Contract := ⟨[.val (.int .i64) (.bor true false), .val (.sl (.pair (.int .i64) (.pair (.int .i64) (.unit)))) (.bor true false)], [(.int .i64, .bor false true)], ref_TasksCheck_F nf, []⟩
theorem ref_TasksCheck_ok : FnOK Try.prog 70 := ⟨Try.f70, codeOf Try.f70, Try.func70, by kernel_rfl, by kernel_rfl⟩
theorem ref_TasksCheck_holds (nf : Nat) : Contract.Holds Try.prog 70 (ref_TasksCheck_C nf) :=
  fn_holds (Φ := ref_TasksCheck_phi nf) (keep := ref_TasksCheck_keep) (n := nf) ⟨tabs.1, tabs.2, (ctx_cons ref_Inside_ok (ref_Inside_holds nf) (ctx_cons ref_Has_ok (ref_Has_holds nf) (ctx_cons ref_Reach_ok (ref_Reach_holds nf) (ctx_cons ref_Behinds_ok (ref_Behinds_holds nf) ctx_nil)))), mixed, bk_ok bkls rfl⟩ (fn := Try.f70) ⟨Try.func70, by kernel_rfl, by kernel_rfl, by kernel_rfl⟩ (fun x => ref_TasksCheck_eq nf x.1 x.2.1)

/-! codemason codemasonlaw.handsCode -/
def law_handsCode_phi (nf : Nat) : Nat → Option Contract := lookC [(70, ref_TasksCheck_C nf)]
def law_handsCode_keep : Nat → List Nat := lookK []
def law_handsCode_p (nf : Nat)  (n' : Int) (pairs : List (Int × Int × Unit)) (hands : Int) : Option (Int × Unit) :=
  Option.bind (ref_TasksCheck_f nf n' pairs) fun r =>
  bif r.fst == 0 then
    bif decide (hands < 1) then
      some ((4, ()))
    else
      bif decide (hands > 8) then
        some ((4, ()))
      else
        some ((r.fst, ()))
  else
    some ((r.fst, ()))
def law_handsCode_f (nf : Nat) (n' : Int) (pairs : List (Int × Int × Unit)) (hands : Int) : Option (Int × Unit) := law_handsCode_p nf  n' pairs hands
theorem law_handsCode_eq (nf : Nat) (n' : Int) (pairs : List (Int × Int × Unit)) (hands : Int) : runF tab (law_handsCode_phi nf) law_handsCode_keep nf [PT.val (Ty.int IntKind.i64) (Md.bor true false), PT.val ((Ty.int IntKind.i64).pair ((Ty.int IntKind.i64).pair Ty.unit)).sl (Md.bor true false), PT.val (Ty.int IntKind.i64) (Md.bor true false)] [(Ty.int IntKind.i64, Md.bor false true)] (resL ([]) Try.f29) (codeOf Try.f29) ⟨n', pairs, hands, ()⟩ = law_handsCode_f nf n' pairs hands := by
  have h : runF tab (law_handsCode_phi nf) law_handsCode_keep nf [PT.val (Ty.int IntKind.i64) (Md.bor true false), PT.val ((Ty.int IntKind.i64).pair ((Ty.int IntKind.i64).pair Ty.unit)).sl (Md.bor true false), PT.val (Ty.int IntKind.i64) (Md.bor true false)] [(Ty.int IntKind.i64, Md.bor false true)] (resL ([]) Try.f29) (codeOf Try.f29) ⟨n', pairs, hands, ()⟩ = law_handsCode_p nf  n' pairs hands := by kernel_rfl
  exact h
def law_handsCode_F (nf : Nat) (x : denPs [.val (.int .i64) (.bor true false), .val (.sl (.pair (.int .i64) (.pair (.int .i64) (.unit)))) (.bor true false), .val (.int .i64) (.bor true false)]) : Option (denL [(.int .i64, .bor false true)]) := law_handsCode_f nf x.1 x.2.1 x.2.2.1
def law_handsCode_C (nf : Nat) : Contract := ⟨[.val (.int .i64) (.bor true false), .val (.sl (.pair (.int .i64) (.pair (.int .i64) (.unit)))) (.bor true false), .val (.int .i64) (.bor true false)], [(.int .i64, .bor false true)], law_handsCode_F nf, []⟩
theorem law_handsCode_ok : FnOK Try.prog 29 := ⟨Try.f29, codeOf Try.f29, Try.func29, by kernel_rfl, by kernel_rfl⟩
theorem law_handsCode_holds (nf : Nat) : Contract.Holds Try.prog 29 (law_handsCode_C nf) :=
  fn_holds (Φ := law_handsCode_phi nf) (keep := law_handsCode_keep) (n := nf) ⟨tabs.1, tabs.2, (ctx_cons ref_TasksCheck_ok (ref_TasksCheck_holds nf) ctx_nil), mixed, bk_ok bkls rfl⟩ (fn := Try.f29) ⟨Try.func29, by kernel_rfl, by kernel_rfl, by kernel_rfl⟩ (fun x => law_handsCode_eq nf x.1 x.2.1 x.2.2.1)

/-! codemason codemasonref.Bit -/
def ref_Bit_phi (nf : Nat) : Nat → Option Contract := lookC []
def ref_Bit_keep : Nat → List Nat := lookK []
def ref_Bit_p (nf : Nat)  (w : Int) (i : Int) : Option (Bool × Unit) :=
  bif decide (i ≥ 0) then
    bif decide (i < 32) then
      bif decide (0 ≤ IntKind.u64.wrap i) then
        some ((IntKind.u32.wrap (↑(BitVec.ofInt IntKind.u32.bits w &&& BitVec.ofInt IntKind.u32.bits (shlI IntKind.u32 1 (IntKind.u64.wrap i))).toNat : Int) != 0, ()))
      else
        none
    else
      some ((false, ()))
  else
    some ((false, ()))
def ref_Bit_f (nf : Nat) (w : Int) (i : Int) : Option (Bool × Unit) := ref_Bit_p nf  w i
theorem ref_Bit_eq (nf : Nat) (w : Int) (i : Int) : runF tab (ref_Bit_phi nf) ref_Bit_keep nf [PT.val (Ty.int IntKind.u32) (Md.bor true false), PT.val (Ty.int IntKind.i64) (Md.bor true false)] [(Ty.bool, Md.bor false true)] (resL ([]) Try.f37) (codeOf Try.f37) ⟨w, i, ()⟩ = ref_Bit_f nf w i := by
  have h : runF tab (ref_Bit_phi nf) ref_Bit_keep nf [PT.val (Ty.int IntKind.u32) (Md.bor true false), PT.val (Ty.int IntKind.i64) (Md.bor true false)] [(Ty.bool, Md.bor false true)] (resL ([]) Try.f37) (codeOf Try.f37) ⟨w, i, ()⟩ = ref_Bit_p nf  w i := by kernel_rfl
  exact h
def ref_Bit_F (nf : Nat) (x : denPs [.val (.int .u32) (.bor true false), .val (.int .i64) (.bor true false)]) : Option (denL [(.bool, .bor false true)]) := ref_Bit_f nf x.1 x.2.1
def ref_Bit_C (nf : Nat) : Contract := ⟨[.val (.int .u32) (.bor true false), .val (.int .i64) (.bor true false)], [(.bool, .bor false true)], ref_Bit_F nf, []⟩
theorem ref_Bit_ok : FnOK Try.prog 37 := ⟨Try.f37, codeOf Try.f37, Try.func37, by kernel_rfl, by kernel_rfl⟩
theorem ref_Bit_holds (nf : Nat) : Contract.Holds Try.prog 37 (ref_Bit_C nf) :=
  fn_holds (Φ := ref_Bit_phi nf) (keep := ref_Bit_keep) (n := nf) ⟨tabs.1, tabs.2, ctx_nil, mixed, bk_ok bkls rfl⟩ (fn := Try.f37) ⟨Try.func37, by kernel_rfl, by kernel_rfl, by kernel_rfl⟩ (fun x => ref_Bit_eq nf x.1 x.2.1)

/-! codemason codemasonref.Size -/
def ref_Size_phi (nf : Nat) : Nat → Option Contract := lookC [(37, ref_Bit_C nf)]
def ref_Size_keep : Nat → List Nat := lookK [(0, [0, 3, 4])]
def ref_Size_b0 (nf : Nat) (w : Int) (g0 : Int → Int → Option (Int × Unit)) (n' : Int) (i : Int) : Option (Int × Unit) :=
  bif decide (i < 32) then
    Option.bind (ref_Bit_f nf w i) fun r =>
    bif r.fst then
      g0 (IntKind.i64.wrap (n' + 1)) (IntKind.i64.wrap (i + 1))
    else
      g0 n' (IntKind.i64.wrap (i + 1))
  else
    some ((n', ()))
def ref_Size_p (nf : Nat) (l0 : Int → Int → Int → Option (Int × Unit)) (w : Int) : Option (Int × Unit) :=
  l0 w 0 0
def ref_Size_l0 (nf : Nat) (w : Int) : Nat → Int → Int → Option (Int × Unit)
  | 0, _, _ => none
  | fu + 1, n', i => ref_Size_b0 nf  w  (ref_Size_l0 nf w  fu) n' i
def ref_Size_f (nf : Nat) (w : Int) : Option (Int × Unit) := ref_Size_p nf (fun p0 v0 v1 => ref_Size_l0 nf p0 nf v0 v1) w
noncomputable def ref_Size_L0 (nf : Nat) : LC (Int × Unit) := theL (findL tab (ref_Size_phi nf) (fun _ F => iter nf F) ref_Size_keep 0 0 (codeOf Try.f66) (fin tab [(Ty.int IntKind.i64, Md.bor false true)] (resL ([]) Try.f66)) (fun _ _ => none) (fin tab [(Ty.int IntKind.i64, Md.bor false true)] (resL ([]) Try.f66)))
def ref_Size_m0 (w : Int) (n' : Int) (i : Int) : St := ⟨fresh, [(0, AV.v (Ty.int IntKind.u32) (Md.bor false true) w), (3, AV.v (Ty.int IntKind.i64) (Md.bor false true) n'), (4, AV.v (Ty.int IntKind.i64) (Md.bor false true) i)]⟩
theorem ref_Size_h0 (nf : Nat)  (w : Int) (fu : Nat) (n' : Int) (i : Int) : iter (fu + 1) (LC.F tab (ref_Size_phi nf) (fun _ F => iter nf F) ref_Size_keep 0 (ref_Size_L0 nf )) (ref_Size_m0 w n' i) = ref_Size_b0 nf  w  (fun n' i => iter fu (LC.F tab (ref_Size_phi nf) (fun _ F => iter nf F) ref_Size_keep 0 (ref_Size_L0 nf )) (ref_Size_m0 w n' i)) n' i := by kernel_rfl
theorem ref_Size_e0 (nf : Nat)  (w : Int) : ∀ (fu : Nat) (n' : Int) (i : Int), iter fu (LC.F tab (ref_Size_phi nf) (fun _ F => iter nf F) ref_Size_keep 0 (ref_Size_L0 nf )) (ref_Size_m0 w n' i) = ref_Size_l0 nf w  fu n' i := by
  intro fu
  induction fu with
  | zero => intros; rfl
  | succ fu ih =>
    intro n' i
    rw [ref_Size_h0 nf  w fu n' i]
    simp only [ih]
    rfl
theorem ref_Size_eq (nf : Nat) (w : Int) : runF tab (ref_Size_phi nf) ref_Size_keep nf [PT.val (Ty.int IntKind.u32) (Md.bor true false)] [(Ty.int IntKind.i64, Md.bor false true)] (resL ([]) Try.f66) (codeOf Try.f66) ⟨w, ()⟩ = ref_Size_f nf w := by
  have h : runF tab (ref_Size_phi nf) ref_Size_keep nf [PT.val (Ty.int IntKind.u32) (Md.bor true false)] [(Ty.int IntKind.i64, Md.bor false true)] (resL ([]) Try.f66) (codeOf Try.f66) ⟨w, ()⟩ = ref_Size_p nf (fun p0 v0 v1 => iter nf (LC.F tab (ref_Size_phi nf) (fun _ F => iter nf F) ref_Size_keep 0 (ref_Size_L0 nf)) (ref_Size_m0 p0 v0 v1)) w := by kernel_rfl
  rw [h]
  simp only [ref_Size_e0]
  rfl
def ref_Size_F (nf : Nat) (x : denPs [.val (.int .u32) (.bor true false)]) : Option (denL [(.int .i64, .bor false true)]) := ref_Size_f nf x.1
def ref_Size_C (nf : Nat) : Contract := ⟨[.val (.int .u32) (.bor true false)], [(.int .i64, .bor false true)], ref_Size_F nf, []⟩
theorem ref_Size_ok : FnOK Try.prog 66 := ⟨Try.f66, codeOf Try.f66, Try.func66, by kernel_rfl, by kernel_rfl⟩
theorem ref_Size_holds (nf : Nat) : Contract.Holds Try.prog 66 (ref_Size_C nf) :=
  fn_holds (Φ := ref_Size_phi nf) (keep := ref_Size_keep) (n := nf) ⟨tabs.1, tabs.2, (ctx_cons ref_Bit_ok (ref_Bit_holds nf) ctx_nil), mixed, bk_ok bkls rfl⟩ (fn := Try.f66) ⟨Try.func66, by kernel_rfl, by kernel_rfl, by kernel_rfl⟩ (fun x => ref_Size_eq nf x.1)

/-! codemason codemasonref.In -/
def ref_In_phi (nf : Nat) : Nat → Option Contract := lookC []
def ref_In_keep : Nat → List Nat := lookK []
def ref_In_p (nf : Nat)  (a : Int) (b : Int) : Option (Bool × Unit) :=
  some ((IntKind.u32.wrap (↑(BitVec.ofInt IntKind.u32.bits a ||| BitVec.ofInt IntKind.u32.bits b).toNat : Int) == b, ()))
def ref_In_f (nf : Nat) (a : Int) (b : Int) : Option (Bool × Unit) := ref_In_p nf  a b
theorem ref_In_eq (nf : Nat) (a : Int) (b : Int) : runF tab (ref_In_phi nf) ref_In_keep nf [PT.val (Ty.int IntKind.u32) (Md.bor true false), PT.val (Ty.int IntKind.u32) (Md.bor true false)] [(Ty.bool, Md.bor false true)] (resL ([]) Try.f71) (codeOf Try.f71) ⟨a, b, ()⟩ = ref_In_f nf a b := by
  have h : runF tab (ref_In_phi nf) ref_In_keep nf [PT.val (Ty.int IntKind.u32) (Md.bor true false), PT.val (Ty.int IntKind.u32) (Md.bor true false)] [(Ty.bool, Md.bor false true)] (resL ([]) Try.f71) (codeOf Try.f71) ⟨a, b, ()⟩ = ref_In_p nf  a b := by kernel_rfl
  exact h
def ref_In_F (nf : Nat) (x : denPs [.val (.int .u32) (.bor true false), .val (.int .u32) (.bor true false)]) : Option (denL [(.bool, .bor false true)]) := ref_In_f nf x.1 x.2.1
def ref_In_C (nf : Nat) : Contract := ⟨[.val (.int .u32) (.bor true false), .val (.int .u32) (.bor true false)], [(.bool, .bor false true)], ref_In_F nf, []⟩
theorem ref_In_ok : FnOK Try.prog 71 := ⟨Try.f71, codeOf Try.f71, Try.func71, by kernel_rfl, by kernel_rfl⟩
theorem ref_In_holds (nf : Nat) : Contract.Holds Try.prog 71 (ref_In_C nf) :=
  fn_holds (Φ := ref_In_phi nf) (keep := ref_In_keep) (n := nf) ⟨tabs.1, tabs.2, ctx_nil, mixed, bk_ok bkls rfl⟩ (fn := Try.f71) ⟨Try.func71, by kernel_rfl, by kernel_rfl, by kernel_rfl⟩ (fun x => ref_In_eq nf x.1 x.2.1)

/-! codemason codemasonref.Shortest -/
def ref_Shortest_phi (nf : Nat) (self : denPs [.val (.int .i64) (.bor true false), .val (.sl (.pair (.int .i64) (.pair (.int .i64) (.unit)))) (.bor true false), .val (.int .i64) (.bor true false), .val (.int .u32) (.bor true false), .val (.int .i64) (.bor true false)] → Option (denL [(.bool, .bor false true)])) : Nat → Option Contract := lookC [(30, ⟨[.val (.int .i64) (.bor true false), .val (.sl (.pair (.int .i64) (.pair (.int .i64) (.unit)))) (.bor true false), .val (.int .i64) (.bor true false), .val (.int .u32) (.bor true false), .val (.int .i64) (.bor true false)], [(.bool, .bor false true)], self, []⟩), (37, ref_Bit_C nf), (66, ref_Size_C nf), (71, ref_In_C nf)]
def ref_Shortest_keep : Nat → List Nat := lookK [(4, [0, 1, 2, 3, 4, 11, 16, 17]), (2, [0, 1, 2, 3, 4, 11, 12, 13, 45, 46, 47]), (0, [0, 1, 2, 3, 4, 11, 12])]
def ref_Shortest_b0 (nf : Nat) (self : denPs [.val (.int .i64) (.bor true false), .val (.sl (.pair (.int .i64) (.pair (.int .i64) (.unit)))) (.bor true false), .val (.int .i64) (.bor true false), .val (.int .u32) (.bor true false), .val (.int .i64) (.bor true false)] → Option (denL [(.bool, .bor false true)])) (l2 : Int → List (Int × Int × Unit) → Int → Int → Int → Int → Int → Bool → Int → Option (Bool × Unit)) (l4 : Int → List (Int × Int × Unit) → Int → Int → Int → Int → Int → Int → Option (Bool × Unit)) (n' : Int) (pairs : List (Int × Int × Unit)) (hands : Int) (done : Int) (turns : Int) (g0 : Int → Int → Option (Bool × Unit)) (may : Int) (i : Int) : Option (Bool × Unit) :=
  bif decide (i < n') then
    Option.bind (ref_Bit_f nf done i) fun r2 =>
    l2 n' pairs hands done turns may i (!r2.fst) 0
  else
    Option.bind (ref_Size_f nf may) fun r4 =>
    bif decide (r4.fst < hands) then
      Option.bind (ref_Size_f nf may) fun r5 =>
      l4 n' pairs hands done turns may r5.fst 1
    else
      l4 n' pairs hands done turns may hands 1
def ref_Shortest_b2 (nf : Nat) (self : denPs [.val (.int .i64) (.bor true false), .val (.sl (.pair (.int .i64) (.pair (.int .i64) (.unit)))) (.bor true false), .val (.int .i64) (.bor true false), .val (.int .u32) (.bor true false), .val (.int .i64) (.bor true false)] → Option (denL [(.bool, .bor false true)])) (n' : Int) (pairs : List (Int × Int × Unit)) (hands : Int) (done : Int) (turns : Int) (may : Int) (i : Int) (g0 : Int → Int → Option (Bool × Unit)) (g2 : Bool → Int → Option (Bool × Unit)) (ok : Bool) (t47 : Int) : Option (Bool × Unit) :=
  bif decide (t47 < (↑pairs.length : Int)) then
    bif inb t47 pairs.length then
      bif ok then
        bif (pairs.getD t47.toNat (0, 0, ())).snd.fst != i then
          g2 true (IntKind.i64.wrap (t47 + 1))
        else
          Option.bind (ref_Bit_f nf done ((pairs.getD t47.toNat (0, 0, ())).fst)) fun r3 =>
          g2 r3.fst (IntKind.i64.wrap (t47 + 1))
      else
        g2 false (IntKind.i64.wrap (t47 + 1))
    else
      none
  else
    bif ok then
      bif decide (0 ≤ IntKind.u64.wrap i) then
        g0 (IntKind.u32.wrap (may + shlI IntKind.u32 1 (IntKind.u64.wrap i))) (IntKind.i64.wrap (i + 1))
      else
        none
    else
      g0 may (IntKind.i64.wrap (i + 1))
def ref_Shortest_b4 (nf : Nat) (self : denPs [.val (.int .i64) (.bor true false), .val (.sl (.pair (.int .i64) (.pair (.int .i64) (.unit)))) (.bor true false), .val (.int .i64) (.bor true false), .val (.int .u32) (.bor true false), .val (.int .i64) (.bor true false)] → Option (denL [(.bool, .bor false true)])) (n' : Int) (pairs : List (Int × Int × Unit)) (hands : Int) (done : Int) (turns : Int) (may : Int) (g4 : Int → Int → Option (Bool × Unit)) (most : Int) (s : Int) : Option (Bool × Unit) :=
  bif decide (0 ≤ IntKind.u64.wrap n') then
    bif decide (s < shlI IntKind.u32 1 (IntKind.u64.wrap n')) then
      Option.bind (ref_In_f nf s may) fun r6 =>
      bif r6.fst then
        Option.bind (ref_Size_f nf s) fun r7 =>
        bif r7.fst == most then
          Option.bind (self (n', pairs, hands, IntKind.u32.wrap (↑(BitVec.ofInt IntKind.u32.bits done ||| BitVec.ofInt IntKind.u32.bits s).toNat : Int), IntKind.i64.wrap (turns - 1), ())) fun r8 =>
          bif r8.fst then
            some ((true, ()))
          else
            g4 most (IntKind.u32.wrap (s + 1))
        else
          g4 most (IntKind.u32.wrap (s + 1))
      else
        g4 most (IntKind.u32.wrap (s + 1))
    else
      some ((false, ()))
  else
    none
def ref_Shortest_p (nf : Nat) (self : denPs [.val (.int .i64) (.bor true false), .val (.sl (.pair (.int .i64) (.pair (.int .i64) (.unit)))) (.bor true false), .val (.int .i64) (.bor true false), .val (.int .u32) (.bor true false), .val (.int .i64) (.bor true false)] → Option (denL [(.bool, .bor false true)])) (l0 : Int → List (Int × Int × Unit) → Int → Int → Int → Int → Int → Option (Bool × Unit)) (n' : Int) (pairs : List (Int × Int × Unit)) (hands : Int) (done : Int) (turns : Int) : Option (Bool × Unit) :=
  bif decide (0 ≤ IntKind.u64.wrap n') then
    bif done == IntKind.u32.wrap (shlI IntKind.u32 1 (IntKind.u64.wrap n') - 1) then
      some ((true, ()))
    else
      bif turns == 0 then
        some ((false, ()))
      else
        Option.bind (ref_Size_f nf done) fun r =>
        bif decide (IntKind.i64.wrap (n' - r.fst) > IntKind.i64.wrap (hands * turns)) then
          some ((false, ()))
        else
          l0 n' pairs hands done turns 0 0
  else
    none
def ref_Shortest_l4 (nf : Nat) (self : denPs [.val (.int .i64) (.bor true false), .val (.sl (.pair (.int .i64) (.pair (.int .i64) (.unit)))) (.bor true false), .val (.int .i64) (.bor true false), .val (.int .u32) (.bor true false), .val (.int .i64) (.bor true false)] → Option (denL [(.bool, .bor false true)])) (n' : Int) (pairs : List (Int × Int × Unit)) (hands : Int) (done : Int) (turns : Int) (may : Int) : Nat → Int → Int → Option (Bool × Unit)
  | 0, _, _ => none
  | fu + 1, most, s => ref_Shortest_b4 nf self  n' pairs hands done turns may  (ref_Shortest_l4 nf self n' pairs hands done turns may  fu) most s
def ref_Shortest_l2 (nf : Nat) (self : denPs [.val (.int .i64) (.bor true false), .val (.sl (.pair (.int .i64) (.pair (.int .i64) (.unit)))) (.bor true false), .val (.int .i64) (.bor true false), .val (.int .u32) (.bor true false), .val (.int .i64) (.bor true false)] → Option (denL [(.bool, .bor false true)])) (n' : Int) (pairs : List (Int × Int × Unit)) (hands : Int) (done : Int) (turns : Int) (may : Int) (i : Int) (g0 : Int → Int → Option (Bool × Unit)) : Nat → Bool → Int → Option (Bool × Unit)
  | 0, _, _ => none
  | fu + 1, ok, t47 => ref_Shortest_b2 nf self  n' pairs hands done turns may i g0 (ref_Shortest_l2 nf self n' pairs hands done turns may i g0 fu) ok t47
def ref_Shortest_l0 (nf : Nat) (self : denPs [.val (.int .i64) (.bor true false), .val (.sl (.pair (.int .i64) (.pair (.int .i64) (.unit)))) (.bor true false), .val (.int .i64) (.bor true false), .val (.int .u32) (.bor true false), .val (.int .i64) (.bor true false)] → Option (denL [(.bool, .bor false true)])) (n' : Int) (pairs : List (Int × Int × Unit)) (hands : Int) (done : Int) (turns : Int) : Nat → Int → Int → Option (Bool × Unit)
  | 0, _, _ => none
  | fu + 1, may, i => ref_Shortest_b0 nf self (fun _ _ _ _ _ p5 p6 v0 v1 => ref_Shortest_l2 nf self n' pairs hands done turns p5 p6 (fun may i => ref_Shortest_l0 nf self n' pairs hands done turns  fu may i) nf v0 v1) (fun _ _ _ _ _ p5 v0 v1 => ref_Shortest_l4 nf self n' pairs hands done turns p5  nf v0 v1) n' pairs hands done turns  (ref_Shortest_l0 nf self n' pairs hands done turns  fu) may i
def ref_Shortest_f (nf : Nat) (self : denPs [.val (.int .i64) (.bor true false), .val (.sl (.pair (.int .i64) (.pair (.int .i64) (.unit)))) (.bor true false), .val (.int .i64) (.bor true false), .val (.int .u32) (.bor true false), .val (.int .i64) (.bor true false)] → Option (denL [(.bool, .bor false true)])) (n' : Int) (pairs : List (Int × Int × Unit)) (hands : Int) (done : Int) (turns : Int) : Option (Bool × Unit) := ref_Shortest_p nf self (fun p0 p1 p2 p3 p4 v0 v1 => ref_Shortest_l0 nf self p0 p1 p2 p3 p4 nf v0 v1) n' pairs hands done turns
noncomputable def ref_Shortest_L0 (nf : Nat) (self : denPs [.val (.int .i64) (.bor true false), .val (.sl (.pair (.int .i64) (.pair (.int .i64) (.unit)))) (.bor true false), .val (.int .i64) (.bor true false), .val (.int .u32) (.bor true false), .val (.int .i64) (.bor true false)] → Option (denL [(.bool, .bor false true)])) : LC (Bool × Unit) := theL (findL tab (ref_Shortest_phi nf self) (fun _ F => iter nf F) ref_Shortest_keep 0 0 (codeOf Try.f30) (fin tab [(Ty.bool, Md.bor false true)] (resL ([]) Try.f30)) (fun _ _ => none) (fin tab [(Ty.bool, Md.bor false true)] (resL ([]) Try.f30)))
def ref_Shortest_m0 (n' : Int) (pairs : List (Int × Int × Unit)) (hands : Int) (done : Int) (turns : Int) (may : Int) (i : Int) : St := ⟨fresh, [(0, AV.v (Ty.int IntKind.i64) (Md.bor false true) n'), (1, AV.v ((Ty.int IntKind.i64).pair ((Ty.int IntKind.i64).pair Ty.unit)).sl (Md.bor true false) pairs), (2, AV.v (Ty.int IntKind.i64) (Md.bor false true) hands), (3, AV.v (Ty.int IntKind.u32) (Md.bor false true) done), (4, AV.v (Ty.int IntKind.i64) (Md.bor false true) turns), (11, AV.v (Ty.int IntKind.u32) (Md.bor false true) may), (12, AV.v (Ty.int IntKind.i64) (Md.bor false true) i)]⟩
noncomputable def ref_Shortest_L2 (nf : Nat) (self : denPs [.val (.int .i64) (.bor true false), .val (.sl (.pair (.int .i64) (.pair (.int .i64) (.unit)))) (.bor true false), .val (.int .i64) (.bor true false), .val (.int .u32) (.bor true false), .val (.int .i64) (.bor true false)] → Option (denL [(.bool, .bor false true)])) (G0 : St → Option (Bool × Unit)) : LC (Bool × Unit) := theL (findL tab (ref_Shortest_phi nf self) (fun _ F => iter nf F) ref_Shortest_keep 2 0 (ref_Shortest_L0 nf self ).c (fun st => norm (ref_Shortest_keep 0) st G0) (ref_Shortest_L0 nf self ).Kx (ref_Shortest_L0 nf self ).Kr)
def ref_Shortest_m2 (n' : Int) (pairs : List (Int × Int × Unit)) (hands : Int) (done : Int) (turns : Int) (may : Int) (i : Int) (ok : Bool) (t47 : Int) : St := ⟨fresh, [(0, AV.v (Ty.int IntKind.i64) (Md.bor false true) n'), (1, AV.v ((Ty.int IntKind.i64).pair ((Ty.int IntKind.i64).pair Ty.unit)).sl (Md.bor true false) pairs), (2, AV.v (Ty.int IntKind.i64) (Md.bor false true) hands), (3, AV.v (Ty.int IntKind.u32) (Md.bor false true) done), (4, AV.v (Ty.int IntKind.i64) (Md.bor false true) turns), (11, AV.v (Ty.int IntKind.u32) (Md.bor false true) may), (12, AV.v (Ty.int IntKind.i64) (Md.bor false true) i), (13, AV.v Ty.bool (Md.bor false true) ok), (45, AV.v ((Ty.int IntKind.i64).pair ((Ty.int IntKind.i64).pair Ty.unit)).sl (Md.bor true false) pairs), (46, AV.v (Ty.int IntKind.i64) (Md.bor false true) (↑pairs.length : Int)), (47, AV.v (Ty.int IntKind.i64) (Md.bor false true) t47)]⟩
noncomputable def ref_Shortest_L4 (nf : Nat) (self : denPs [.val (.int .i64) (.bor true false), .val (.sl (.pair (.int .i64) (.pair (.int .i64) (.unit)))) (.bor true false), .val (.int .i64) (.bor true false), .val (.int .u32) (.bor true false), .val (.int .i64) (.bor true false)] → Option (denL [(.bool, .bor false true)])) : LC (Bool × Unit) := theL (findL tab (ref_Shortest_phi nf self) (fun _ F => iter nf F) ref_Shortest_keep 4 0 (codeOf Try.f30) (fin tab [(Ty.bool, Md.bor false true)] (resL ([]) Try.f30)) (fun _ _ => none) (fin tab [(Ty.bool, Md.bor false true)] (resL ([]) Try.f30)))
def ref_Shortest_m4 (n' : Int) (pairs : List (Int × Int × Unit)) (hands : Int) (done : Int) (turns : Int) (may : Int) (most : Int) (s : Int) : St := ⟨fresh, [(0, AV.v (Ty.int IntKind.i64) (Md.bor false true) n'), (1, AV.v ((Ty.int IntKind.i64).pair ((Ty.int IntKind.i64).pair Ty.unit)).sl (Md.bor true false) pairs), (2, AV.v (Ty.int IntKind.i64) (Md.bor false true) hands), (3, AV.v (Ty.int IntKind.u32) (Md.bor false true) done), (4, AV.v (Ty.int IntKind.i64) (Md.bor false true) turns), (11, AV.v (Ty.int IntKind.u32) (Md.bor false true) may), (16, AV.v (Ty.int IntKind.i64) (Md.bor false true) most), (17, AV.v (Ty.int IntKind.u32) (Md.bor false true) s)]⟩
theorem ref_Shortest_h4 (nf : Nat) (self : denPs [.val (.int .i64) (.bor true false), .val (.sl (.pair (.int .i64) (.pair (.int .i64) (.unit)))) (.bor true false), .val (.int .i64) (.bor true false), .val (.int .u32) (.bor true false), .val (.int .i64) (.bor true false)] → Option (denL [(.bool, .bor false true)]))  (n' : Int) (pairs : List (Int × Int × Unit)) (hands : Int) (done : Int) (turns : Int) (may : Int) (fu : Nat) (most : Int) (s : Int) : iter (fu + 1) (LC.F tab (ref_Shortest_phi nf self) (fun _ F => iter nf F) ref_Shortest_keep 4 (ref_Shortest_L4 nf self )) (ref_Shortest_m4 n' pairs hands done turns may most s) = ref_Shortest_b4 nf self  n' pairs hands done turns may  (fun most s => iter fu (LC.F tab (ref_Shortest_phi nf self) (fun _ F => iter nf F) ref_Shortest_keep 4 (ref_Shortest_L4 nf self )) (ref_Shortest_m4 n' pairs hands done turns may most s)) most s := by kernel_rfl
theorem ref_Shortest_e4 (nf : Nat) (self : denPs [.val (.int .i64) (.bor true false), .val (.sl (.pair (.int .i64) (.pair (.int .i64) (.unit)))) (.bor true false), .val (.int .i64) (.bor true false), .val (.int .u32) (.bor true false), .val (.int .i64) (.bor true false)] → Option (denL [(.bool, .bor false true)]))  (n' : Int) (pairs : List (Int × Int × Unit)) (hands : Int) (done : Int) (turns : Int) (may : Int) : ∀ (fu : Nat) (most : Int) (s : Int), iter fu (LC.F tab (ref_Shortest_phi nf self) (fun _ F => iter nf F) ref_Shortest_keep 4 (ref_Shortest_L4 nf self )) (ref_Shortest_m4 n' pairs hands done turns may most s) = ref_Shortest_l4 nf self n' pairs hands done turns may  fu most s := by
  intro fu
  induction fu with
  | zero => intros; rfl
  | succ fu ih =>
    intro most s
    rw [ref_Shortest_h4 nf self  n' pairs hands done turns may fu most s]
    simp only [ih]
    rfl
theorem ref_Shortest_h2 (nf : Nat) (self : denPs [.val (.int .i64) (.bor true false), .val (.sl (.pair (.int .i64) (.pair (.int .i64) (.unit)))) (.bor true false), .val (.int .i64) (.bor true false), .val (.int .u32) (.bor true false), .val (.int .i64) (.bor true false)] → Option (denL [(.bool, .bor false true)])) (G0 : St → Option (Bool × Unit)) (n' : Int) (pairs : List (Int × Int × Unit)) (hands : Int) (done : Int) (turns : Int) (may : Int) (i : Int) (fu : Nat) (ok : Bool) (t47 : Int) : iter (fu + 1) (LC.F tab (ref_Shortest_phi nf self) (fun _ F => iter nf F) ref_Shortest_keep 2 (ref_Shortest_L2 nf self G0)) (ref_Shortest_m2 n' pairs hands done turns may i ok t47) = ref_Shortest_b2 nf self  n' pairs hands done turns may i (fun may i => G0 (ref_Shortest_m0 n' pairs hands done turns may i)) (fun ok t47 => iter fu (LC.F tab (ref_Shortest_phi nf self) (fun _ F => iter nf F) ref_Shortest_keep 2 (ref_Shortest_L2 nf self G0)) (ref_Shortest_m2 n' pairs hands done turns may i ok t47)) ok t47 := by kernel_rfl
theorem ref_Shortest_e2 (nf : Nat) (self : denPs [.val (.int .i64) (.bor true false), .val (.sl (.pair (.int .i64) (.pair (.int .i64) (.unit)))) (.bor true false), .val (.int .i64) (.bor true false), .val (.int .u32) (.bor true false), .val (.int .i64) (.bor true false)] → Option (denL [(.bool, .bor false true)])) (G0 : St → Option (Bool × Unit)) (n' : Int) (pairs : List (Int × Int × Unit)) (hands : Int) (done : Int) (turns : Int) (may : Int) (i : Int) : ∀ (fu : Nat) (ok : Bool) (t47 : Int), iter fu (LC.F tab (ref_Shortest_phi nf self) (fun _ F => iter nf F) ref_Shortest_keep 2 (ref_Shortest_L2 nf self G0)) (ref_Shortest_m2 n' pairs hands done turns may i ok t47) = ref_Shortest_l2 nf self n' pairs hands done turns may i (fun may i => G0 (ref_Shortest_m0 n' pairs hands done turns may i)) fu ok t47 := by
  intro fu
  induction fu with
  | zero => intros; rfl
  | succ fu ih =>
    intro ok t47
    rw [ref_Shortest_h2 nf self G0 n' pairs hands done turns may i fu ok t47]
    simp only [ih]
    rfl
theorem ref_Shortest_h0 (nf : Nat) (self : denPs [.val (.int .i64) (.bor true false), .val (.sl (.pair (.int .i64) (.pair (.int .i64) (.unit)))) (.bor true false), .val (.int .i64) (.bor true false), .val (.int .u32) (.bor true false), .val (.int .i64) (.bor true false)] → Option (denL [(.bool, .bor false true)]))  (n' : Int) (pairs : List (Int × Int × Unit)) (hands : Int) (done : Int) (turns : Int) (fu : Nat) (may : Int) (i : Int) : iter (fu + 1) (LC.F tab (ref_Shortest_phi nf self) (fun _ F => iter nf F) ref_Shortest_keep 0 (ref_Shortest_L0 nf self )) (ref_Shortest_m0 n' pairs hands done turns may i) = ref_Shortest_b0 nf self (fun _ _ _ _ _ p5 p6 v0 v1 => iter nf (LC.F tab (ref_Shortest_phi nf self) (fun _ F => iter nf F) ref_Shortest_keep 2 (ref_Shortest_L2 nf self (iter fu (LC.F tab (ref_Shortest_phi nf self) (fun _ F => iter nf F) ref_Shortest_keep 0 (ref_Shortest_L0 nf self ))))) (ref_Shortest_m2 n' pairs hands done turns p5 p6 v0 v1)) (fun _ _ _ _ _ p5 v0 v1 => iter nf (LC.F tab (ref_Shortest_phi nf self) (fun _ F => iter nf F) ref_Shortest_keep 4 (ref_Shortest_L4 nf self )) (ref_Shortest_m4 n' pairs hands done turns p5 v0 v1)) n' pairs hands done turns  (fun may i => iter fu (LC.F tab (ref_Shortest_phi nf self) (fun _ F => iter nf F) ref_Shortest_keep 0 (ref_Shortest_L0 nf self )) (ref_Shortest_m0 n' pairs hands done turns may i)) may i := by kernel_rfl
theorem ref_Shortest_e0 (nf : Nat) (self : denPs [.val (.int .i64) (.bor true false), .val (.sl (.pair (.int .i64) (.pair (.int .i64) (.unit)))) (.bor true false), .val (.int .i64) (.bor true false), .val (.int .u32) (.bor true false), .val (.int .i64) (.bor true false)] → Option (denL [(.bool, .bor false true)]))  (n' : Int) (pairs : List (Int × Int × Unit)) (hands : Int) (done : Int) (turns : Int) : ∀ (fu : Nat) (may : Int) (i : Int), iter fu (LC.F tab (ref_Shortest_phi nf self) (fun _ F => iter nf F) ref_Shortest_keep 0 (ref_Shortest_L0 nf self )) (ref_Shortest_m0 n' pairs hands done turns may i) = ref_Shortest_l0 nf self n' pairs hands done turns  fu may i := by
  intro fu
  induction fu with
  | zero => intros; rfl
  | succ fu ih =>
    intro may i
    rw [ref_Shortest_h0 nf self  n' pairs hands done turns fu may i]
    simp only [ih, ref_Shortest_e2, ref_Shortest_e4]
    rfl
theorem ref_Shortest_eq (nf : Nat) (self : denPs [.val (.int .i64) (.bor true false), .val (.sl (.pair (.int .i64) (.pair (.int .i64) (.unit)))) (.bor true false), .val (.int .i64) (.bor true false), .val (.int .u32) (.bor true false), .val (.int .i64) (.bor true false)] → Option (denL [(.bool, .bor false true)])) (n' : Int) (pairs : List (Int × Int × Unit)) (hands : Int) (done : Int) (turns : Int) : runF tab (ref_Shortest_phi nf self) ref_Shortest_keep nf [PT.val (Ty.int IntKind.i64) (Md.bor true false), PT.val ((Ty.int IntKind.i64).pair ((Ty.int IntKind.i64).pair Ty.unit)).sl (Md.bor true false), PT.val (Ty.int IntKind.i64) (Md.bor true false), PT.val (Ty.int IntKind.u32) (Md.bor true false), PT.val (Ty.int IntKind.i64) (Md.bor true false)] [(Ty.bool, Md.bor false true)] (resL ([]) Try.f30) (codeOf Try.f30) ⟨n', pairs, hands, done, turns, ()⟩ = ref_Shortest_f nf self n' pairs hands done turns := by
  have h : runF tab (ref_Shortest_phi nf self) ref_Shortest_keep nf [PT.val (Ty.int IntKind.i64) (Md.bor true false), PT.val ((Ty.int IntKind.i64).pair ((Ty.int IntKind.i64).pair Ty.unit)).sl (Md.bor true false), PT.val (Ty.int IntKind.i64) (Md.bor true false), PT.val (Ty.int IntKind.u32) (Md.bor true false), PT.val (Ty.int IntKind.i64) (Md.bor true false)] [(Ty.bool, Md.bor false true)] (resL ([]) Try.f30) (codeOf Try.f30) ⟨n', pairs, hands, done, turns, ()⟩ = ref_Shortest_p nf self (fun p0 p1 p2 p3 p4 v0 v1 => iter nf (LC.F tab (ref_Shortest_phi nf self) (fun _ F => iter nf F) ref_Shortest_keep 0 (ref_Shortest_L0 nf self)) (ref_Shortest_m0 p0 p1 p2 p3 p4 v0 v1)) n' pairs hands done turns := by kernel_rfl
  rw [h]
  simp only [ref_Shortest_e0]
  rfl
def ref_Shortest_F : Nat → denPs [.val (.int .i64) (.bor true false), .val (.sl (.pair (.int .i64) (.pair (.int .i64) (.unit)))) (.bor true false), .val (.int .i64) (.bor true false), .val (.int .u32) (.bor true false), .val (.int .i64) (.bor true false)] → Option (denL [(.bool, .bor false true)])
  | 0, _ => none
  | nf + 1, x => ref_Shortest_f nf (ref_Shortest_F nf) x.1 x.2.1 x.2.2.1 x.2.2.2.1 x.2.2.2.2.1
def ref_Shortest_C (nf : Nat) : Contract := ⟨[.val (.int .i64) (.bor true false), .val (.sl (.pair (.int .i64) (.pair (.int .i64) (.unit)))) (.bor true false), .val (.int .i64) (.bor true false), .val (.int .u32) (.bor true false), .val (.int .i64) (.bor true false)], [(.bool, .bor false true)], ref_Shortest_F nf, []⟩
theorem ref_Shortest_ok : FnOK Try.prog 30 := ⟨Try.f30, codeOf Try.f30, Try.func30, by kernel_rfl, by kernel_rfl⟩
theorem ref_Shortest_holds : ∀ (nf : Nat), Contract.Holds Try.prog 30 (ref_Shortest_C nf)
  | 0 => fun _ _ h => by cases h
  | nf + 1 => by
    have ih := ref_Shortest_holds nf
    exact fn_holds (Φ := ref_Shortest_phi nf (ref_Shortest_F nf)) (keep := ref_Shortest_keep) (n := nf) ⟨tabs.1, tabs.2, (ctx_cons ref_Shortest_ok (ih) (ctx_cons ref_Bit_ok (ref_Bit_holds nf) (ctx_cons ref_Size_ok (ref_Size_holds nf) (ctx_cons ref_In_ok (ref_In_holds nf) ctx_nil)))), mixed, bk_ok bkls rfl⟩ (fn := Try.f30) ⟨Try.func30, by kernel_rfl, by kernel_rfl, by kernel_rfl⟩ (fun x => ref_Shortest_eq nf (ref_Shortest_F nf) x.1 x.2.1 x.2.2.1 x.2.2.2.1 x.2.2.2.2.1)

/-! codemason codemasonlaw.PlanBests -/
def law_PlanBests_phi (nf : Nat) : Nat → Option Contract := lookC [(28, plan_Best_C nf), (29, law_handsCode_C nf), (30, ref_Shortest_C nf)]
def law_PlanBests_keep : Nat → List Nat := lookK []
def law_PlanBests_p (nf : Nat)  (n' : Int) (pairs : List (Int × Int × Unit)) (hands : Int) : Option (Bool × Unit) :=
  Option.bind (plan_Best_f nf n' pairs hands) fun r =>
  Option.bind (law_handsCode_f nf n' pairs hands) fun r2 =>
  bif r2.fst != 0 then
    bif r.snd.fst == r2.fst then
      some ((r.fst == 0, ()))
    else
      some ((false, ()))
  else
    bif r.snd.fst == 0 then
      bif decide (r.fst > 0) then
        bif decide (r.fst ≤ n') then
          Option.bind (ref_Shortest_F nf (n', pairs, hands, 0, r.fst, ())) fun r3 =>
          bif r3.fst then
            Option.bind (ref_Shortest_F nf (n', pairs, hands, 0, IntKind.i64.wrap (r.fst - 1), ())) fun r4 =>
            some ((!r4.fst, ()))
          else
            some ((false, ()))
        else
          some ((false, ()))
      else
        some ((false, ()))
    else
      some ((false, ()))
def law_PlanBests_f (nf : Nat) (n' : Int) (pairs : List (Int × Int × Unit)) (hands : Int) : Option (Bool × Unit) := law_PlanBests_p nf  n' pairs hands
theorem law_PlanBests_eq (nf : Nat) (n' : Int) (pairs : List (Int × Int × Unit)) (hands : Int) : runF tab (law_PlanBests_phi nf) law_PlanBests_keep nf [PT.val (Ty.int IntKind.i64) (Md.bor false false), PT.val ((Ty.int IntKind.i64).pair ((Ty.int IntKind.i64).pair Ty.unit)).sl (Md.bor false false), PT.val (Ty.int IntKind.i64) (Md.bor false false)] [(Ty.bool, Md.bor false true)] (resL ([]) Try.f9) (codeOf Try.f9) ⟨n', pairs, hands, ()⟩ = law_PlanBests_f nf n' pairs hands := by
  have h : runF tab (law_PlanBests_phi nf) law_PlanBests_keep nf [PT.val (Ty.int IntKind.i64) (Md.bor false false), PT.val ((Ty.int IntKind.i64).pair ((Ty.int IntKind.i64).pair Ty.unit)).sl (Md.bor false false), PT.val (Ty.int IntKind.i64) (Md.bor false false)] [(Ty.bool, Md.bor false true)] (resL ([]) Try.f9) (codeOf Try.f9) ⟨n', pairs, hands, ()⟩ = law_PlanBests_p nf  n' pairs hands := by kernel_rfl
  exact h
def law_PlanBests_F (nf : Nat) (x : denPs [.val (.int .i64) (.bor false false), .val (.sl (.pair (.int .i64) (.pair (.int .i64) (.unit)))) (.bor false false), .val (.int .i64) (.bor false false)]) : Option (denL [(.bool, .bor false true)]) := law_PlanBests_f nf x.1 x.2.1 x.2.2.1
def law_PlanBests_C (nf : Nat) : Contract := ⟨[.val (.int .i64) (.bor false false), .val (.sl (.pair (.int .i64) (.pair (.int .i64) (.unit)))) (.bor false false), .val (.int .i64) (.bor false false)], [(.bool, .bor false true)], law_PlanBests_F nf, []⟩
theorem law_PlanBests_ok : FnOK Try.prog 9 := ⟨Try.f9, codeOf Try.f9, Try.func9, by kernel_rfl, by kernel_rfl⟩
theorem law_PlanBests_holds (nf : Nat) : Contract.Holds Try.prog 9 (law_PlanBests_C nf) :=
  fn_holds (Φ := law_PlanBests_phi nf) (keep := law_PlanBests_keep) (n := nf) ⟨tabs.1, tabs.2, (ctx_cons plan_Best_ok (plan_Best_holds nf) (ctx_cons law_handsCode_ok (law_handsCode_holds nf) (ctx_cons ref_Shortest_ok (ref_Shortest_holds nf) ctx_nil))), mixed, bk_ok bkls rfl⟩ (fn := Try.f9) ⟨Try.func9, by kernel_rfl, by kernel_rfl, by kernel_rfl⟩ (fun x => law_PlanBests_eq nf x.1 x.2.1 x.2.2.1)
end
end Go.Proofs.Ytoglkjmdloppcaa.S
