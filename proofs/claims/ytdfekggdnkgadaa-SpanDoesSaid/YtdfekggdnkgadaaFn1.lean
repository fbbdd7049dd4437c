/- The functions of the code, as plain functions, and the theorems that say so: made by a program of this proof's own. -/
import Derived.Test.YtdfekggdnkgadaaAbCheck
import Derived.Test.YtdfekggdnkgadaaChecked
namespace Go.Proofs.Ytdfekggdnkgadaa.S
open Go Go.Ab
def tab : Tab := ⟨lookT [(2, .int .i64), (3, .int .i64), (4, .bool), (5, .int .u8), (6, .int .u8), (7, .pair (.int .i64) (.pair (.int .i64) (.pair (.bool) (.pair (.int .u8) (.unit))))), (8, .pair (.int .i64) (.pair (.int .i64) (.pair (.bool) (.pair (.int .u8) (.unit))))), (12, .int .u64), (21, .int .i32), (22, .pair (.int .i64) (.pair (.int .i64) (.unit))), (23, .pair (.int .i64) (.pair (.int .i64) (.unit))), (24, .int .i64), (41, .int .u32), (42, .int .u8), (43, .int .u8), (46, .int .i32), (47, .int .i32)], lookM [(2, .bor false true), (3, .bor false true), (4, .bor false true), (5, .bor false true), (6, .bor false true), (7, .bor false true), (8, .bor false true), (12, .bor false true), (21, .bor false true), (22, .bor false true), (23, .bor false true), (24, .bor false true), (41, .bor false true), (42, .bor false true), (43, .bor false true), (46, .bor false true), (47, .bor false true)], hasT [37], hasT [9, 10, 11]⟩
theorem tabs : TabOK Try.prog tab ∧ EqOK Try.prog tab := tab_ok (by kernel_rfl) (by kernel_rfl)
theorem mixed : Try.prog.follows .mixedOrders = true := by kernel_rfl

/-! codemason span.is -/
def span_is_phi (nf : Nat) : Nat → Option Contract := lookC []
def span_is_keep : Nat → List Nat := lookK []
def span_is_p (nf : Nat)  (s : Int × Int × Unit) : Option (Bool × Unit) :=
  bif decide (s.fst ≥ 0) then
    bif decide (s.fst ≤ s.snd.fst) then
      some ((decide (s.snd.fst ≤ 255), ()))
    else
      some ((false, ()))
  else
    some ((false, ()))
def span_is_f (nf : Nat) (s : Int × Int × Unit) : Option (Bool × Unit) := span_is_p nf  s
theorem span_is_eq (nf : Nat) (s : Int × Int × Unit) : runF tab (span_is_phi nf) span_is_keep nf [PT.val ((Ty.int IntKind.i64).pair ((Ty.int IntKind.i64).pair Ty.unit)) (Md.bor true false)] [(Ty.bool, Md.bor false true)] Try.f7.results.toList (codeOf Try.f7) ⟨s, ()⟩ = span_is_f nf s := by
  have h : runF tab (span_is_phi nf) span_is_keep nf [PT.val ((Ty.int IntKind.i64).pair ((Ty.int IntKind.i64).pair Ty.unit)) (Md.bor true false)] [(Ty.bool, Md.bor false true)] Try.f7.results.toList (codeOf Try.f7) ⟨s, ()⟩ = span_is_p nf  s := by kernel_rfl
  exact h
def span_is_F (nf : Nat) (x : denPs [.val (.pair (.int .i64) (.pair (.int .i64) (.unit))) (.bor true false)]) : Option (denL [(.bool, .bor false true)]) := span_is_f nf x.1
def span_is_C (nf : Nat) : Contract := ⟨[.val (.pair (.int .i64) (.pair (.int .i64) (.unit))) (.bor true false)], [(.bool, .bor false true)], span_is_F nf⟩
theorem span_is_ok : FnOK Try.prog 7 := ⟨Try.f7, codeOf Try.f7, Try.func7, by kernel_rfl, by kernel_rfl⟩
theorem span_is_holds (nf : Nat) : Contract.Holds Try.prog 7 (span_is_C nf) :=
  fn_holds (Φ := span_is_phi nf) (keep := span_is_keep) (n := nf) ⟨tabs.1, tabs.2, ctx_nil, mixed⟩ (fn := Try.f7) ⟨Try.func7, by kernel_rfl, by kernel_rfl, by kernel_rfl⟩ (fun x => span_is_eq nf x.1)

/-! codemason span.wrap -/
def span_wrap_phi (nf : Nat) : Nat → Option Contract := lookC []
def span_wrap_keep : Nat → List Nat := lookK []
def span_wrap_p (nf : Nat)  (low : Int) (high : Int) : Option ((Int × Int × Unit) × Unit) :=
  bif decide (IntKind.i64.wrap (high - low) ≥ 256) then
    some (((0, 255, ()), ()))
  else
    bif decide (IntKind.i64.wrap (↑(BitVec.ofInt IntKind.i64.bits low &&& BitVec.ofInt IntKind.i64.bits 255).toNat : Int) > IntKind.i64.wrap (↑(BitVec.ofInt IntKind.i64.bits high &&& BitVec.ofInt IntKind.i64.bits 255).toNat : Int)) then
      some (((0, 255, ()), ()))
    else
      some (((IntKind.i64.wrap (↑(BitVec.ofInt IntKind.i64.bits low &&& BitVec.ofInt IntKind.i64.bits 255).toNat : Int), IntKind.i64.wrap (↑(BitVec.ofInt IntKind.i64.bits high &&& BitVec.ofInt IntKind.i64.bits 255).toNat : Int), ()), ()))
def span_wrap_f (nf : Nat) (low : Int) (high : Int) : Option ((Int × Int × Unit) × Unit) := span_wrap_p nf  low high
theorem span_wrap_eq (nf : Nat) (low : Int) (high : Int) : runF tab (span_wrap_phi nf) span_wrap_keep nf [PT.val (Ty.int IntKind.i64) (Md.bor true false), PT.val (Ty.int IntKind.i64) (Md.bor true false)] [((Ty.int IntKind.i64).pair ((Ty.int IntKind.i64).pair Ty.unit), Md.bor false true)] Try.f11.results.toList (codeOf Try.f11) ⟨low, high, ()⟩ = span_wrap_f nf low high := by
  have h : runF tab (span_wrap_phi nf) span_wrap_keep nf [PT.val (Ty.int IntKind.i64) (Md.bor true false), PT.val (Ty.int IntKind.i64) (Md.bor true false)] [((Ty.int IntKind.i64).pair ((Ty.int IntKind.i64).pair Ty.unit), Md.bor false true)] Try.f11.results.toList (codeOf Try.f11) ⟨low, high, ()⟩ = span_wrap_p nf  low high := by kernel_rfl
  exact h
def span_wrap_F (nf : Nat) (x : denPs [.val (.int .i64) (.bor true false), .val (.int .i64) (.bor true false)]) : Option (denL [(.pair (.int .i64) (.pair (.int .i64) (.unit)), .bor false true)]) := span_wrap_f nf x.1 x.2.1
def span_wrap_C (nf : Nat) : Contract := ⟨[.val (.int .i64) (.bor true false), .val (.int .i64) (.bor true false)], [(.pair (.int .i64) (.pair (.int .i64) (.unit)), .bor false true)], span_wrap_F nf⟩
theorem span_wrap_ok : FnOK Try.prog 11 := ⟨Try.f11, codeOf Try.f11, Try.func11, by kernel_rfl, by kernel_rfl⟩
theorem span_wrap_holds (nf : Nat) : Contract.Holds Try.prog 11 (span_wrap_C nf) :=
  fn_holds (Φ := span_wrap_phi nf) (keep := span_wrap_keep) (n := nf) ⟨tabs.1, tabs.2, ctx_nil, mixed⟩ (fn := Try.f11) ⟨Try.func11, by kernel_rfl, by kernel_rfl, by kernel_rfl⟩ (fun x => span_wrap_eq nf x.1 x.2.1)

/-! codemason term.Do -/
def term_Do_phi (nf : Nat) : Nat → Option Contract := lookC []
def term_Do_keep : Nat → List Nat := lookK []
def term_Do_p (nf : Nat)  (op : Int) (a : Int) (b : Int) : Option (Int × Unit) :=
  bif op == 3 then
    some ((IntKind.i64.wrap (↑(BitVec.ofInt IntKind.i64.bits (IntKind.i64.wrap (a + b)) &&& BitVec.ofInt IntKind.i64.bits 255).toNat : Int), ()))
  else
    bif op == 4 then
      some ((IntKind.i64.wrap (↑(BitVec.ofInt IntKind.i64.bits (IntKind.i64.wrap (a - b)) &&& BitVec.ofInt IntKind.i64.bits 255).toNat : Int), ()))
    else
      bif op == 5 then
        some ((IntKind.i64.wrap (↑(BitVec.ofInt IntKind.i64.bits (IntKind.i64.wrap (a * b)) &&& BitVec.ofInt IntKind.i64.bits 255).toNat : Int), ()))
      else
        bif decide (a < b) then
          some ((1, ()))
        else
          some ((0, ()))
def term_Do_f (nf : Nat) (op : Int) (a : Int) (b : Int) : Option (Int × Unit) := term_Do_p nf  op a b
theorem term_Do_eq (nf : Nat) (op : Int) (a : Int) (b : Int) : runF tab (term_Do_phi nf) term_Do_keep nf [PT.val (Ty.int IntKind.i64) (Md.bor true false), PT.val (Ty.int IntKind.i64) (Md.bor true false), PT.val (Ty.int IntKind.i64) (Md.bor true false)] [(Ty.int IntKind.i64, Md.bor false true)] Try.f13.results.toList (codeOf Try.f13) ⟨op, a, b, ()⟩ = term_Do_f nf op a b := by
  have h : runF tab (term_Do_phi nf) term_Do_keep nf [PT.val (Ty.int IntKind.i64) (Md.bor true false), PT.val (Ty.int IntKind.i64) (Md.bor true false), PT.val (Ty.int IntKind.i64) (Md.bor true false)] [(Ty.int IntKind.i64, Md.bor false true)] Try.f13.results.toList (codeOf Try.f13) ⟨op, a, b, ()⟩ = term_Do_p nf  op a b := by kernel_rfl
  exact h
def term_Do_F (nf : Nat) (x : denPs [.val (.int .i64) (.bor true false), .val (.int .i64) (.bor true false), .val (.int .i64) (.bor true false)]) : Option (denL [(.int .i64, .bor false true)]) := term_Do_f nf x.1 x.2.1 x.2.2.1
def term_Do_C (nf : Nat) : Contract := ⟨[.val (.int .i64) (.bor true false), .val (.int .i64) (.bor true false), .val (.int .i64) (.bor true false)], [(.int .i64, .bor false true)], term_Do_F nf⟩
theorem term_Do_ok : FnOK Try.prog 13 := ⟨Try.f13, codeOf Try.f13, Try.func13, by kernel_rfl, by kernel_rfl⟩
theorem term_Do_holds (nf : Nat) : Contract.Holds Try.prog 13 (term_Do_C nf) :=
  fn_holds (Φ := term_Do_phi nf) (keep := term_Do_keep) (n := nf) ⟨tabs.1, tabs.2, ctx_nil, mixed⟩ (fn := Try.f13) ⟨Try.func13, by kernel_rfl, by kernel_rfl, by kernel_rfl⟩ (fun x => term_Do_eq nf x.1 x.2.1 x.2.2.1)

/-! codemason span.times -/
def span_times_phi (nf : Nat) : Nat → Option Contract := lookC [(13, term_Do_C nf)]
def span_times_keep : Nat → List Nat := lookK [(2, [0, 1, 2, 3, 4, 5, 6, 7]), (0, [0, 1, 2, 3, 4, 5, 6])]
def span_times_b0 (nf : Nat) (l2 : Int × Int × Unit → Int × Int × Unit → Int → Int × Int × Unit → Int × Int × Unit → Int × Int × Unit → Int × Int × Unit → Int → Option ((Int × Int × Unit) × Unit)) (a : Int × Int × Unit) (b : Int × Int × Unit) (g0 : Int × Int × Unit → Int × Int × Unit → Int × Int × Unit → Int × Int × Unit → Int → Option ((Int × Int × Unit) × Unit)) (a2 : Int × Int × Unit) (b2 : Int × Int × Unit) (t4 : Int × Int × Unit) (out : Int × Int × Unit) (x : Int) : Option ((Int × Int × Unit) × Unit) :=
  bif decide (x ≤ a2.snd.fst) then
    l2 a b x a2 b2 t4 out b2.fst
  else
    some ((out, ()))
def span_times_b2 (nf : Nat) (a : Int × Int × Unit) (b : Int × Int × Unit) (x : Int) (g0 : Int × Int × Unit → Int × Int × Unit → Int × Int × Unit → Int × Int × Unit → Int → Option ((Int × Int × Unit) × Unit)) (g2 : Int × Int × Unit → Int × Int × Unit → Int × Int × Unit → Int × Int × Unit → Int → Option ((Int × Int × Unit) × Unit)) (a3 : Int × Int × Unit) (b3 : Int × Int × Unit) (t42 : Int × Int × Unit) (out2 : Int × Int × Unit) (y : Int) : Option ((Int × Int × Unit) × Unit) :=
  bif decide (y ≤ b3.snd.fst) then
    Option.bind (term_Do_f nf 5 x y) fun r =>
    bif (if r.fst < out2.fst then r.fst else out2.fst) == 0 then
      bif (if r.fst > out2.snd.fst then r.fst else out2.snd.fst) == 255 then
        some (((if r.fst < out2.fst then r.fst else out2.fst, if r.fst > out2.snd.fst then r.fst else out2.snd.fst, out2.snd.snd), ()))
      else
        g2 a3 b3 t42 ((if r.fst < out2.fst then r.fst else out2.fst, if r.fst > out2.snd.fst then r.fst else out2.snd.fst, out2.snd.snd)) (IntKind.i64.wrap (y + 1))
    else
      g2 a3 b3 t42 ((if r.fst < out2.fst then r.fst else out2.fst, if r.fst > out2.snd.fst then r.fst else out2.snd.fst, out2.snd.snd)) (IntKind.i64.wrap (y + 1))
  else
    g0 a3 b3 t42 out2 (IntKind.i64.wrap (x + 1))
def span_times_p (nf : Nat) (l0 : Int × Int × Unit → Int × Int × Unit → Int × Int × Unit → Int × Int × Unit → Int × Int × Unit → Int × Int × Unit → Int → Option ((Int × Int × Unit) × Unit)) (a : Int × Int × Unit) (b : Int × Int × Unit) : Option ((Int × Int × Unit) × Unit) :=
  l0 a b a b ((0, 0, ())) ((255, 0, ())) a.fst
def span_times_l2 (nf : Nat) (a : Int × Int × Unit) (b : Int × Int × Unit) (x : Int) (g0 : Int × Int × Unit → Int × Int × Unit → Int × Int × Unit → Int × Int × Unit → Int → Option ((Int × Int × Unit) × Unit)) : Nat → Int × Int × Unit → Int × Int × Unit → Int × Int × Unit → Int × Int × Unit → Int → Option ((Int × Int × Unit) × Unit)
  | 0, _, _, _, _, _ => none
  | fu + 1, a3, b3, t42, out2, y => span_times_b2 nf  a b x g0 (span_times_l2 nf a b x g0 fu) a3 b3 t42 out2 y
def span_times_l0 (nf : Nat) (a : Int × Int × Unit) (b : Int × Int × Unit) : Nat → Int × Int × Unit → Int × Int × Unit → Int × Int × Unit → Int × Int × Unit → Int → Option ((Int × Int × Unit) × Unit)
  | 0, _, _, _, _, _ => none
  | fu + 1, a2, b2, t4, out, x => span_times_b0 nf (fun _ _ p2 v0 v1 v2 v3 v4 => span_times_l2 nf a b p2 (fun a2 b2 t4 out x => span_times_l0 nf a b  fu a2 b2 t4 out x) nf v0 v1 v2 v3 v4) a b  (span_times_l0 nf a b  fu) a2 b2 t4 out x
def span_times_f (nf : Nat) (a : Int × Int × Unit) (b : Int × Int × Unit) : Option ((Int × Int × Unit) × Unit) := span_times_p nf (fun p0 p1 v0 v1 v2 v3 v4 => span_times_l0 nf p0 p1 nf v0 v1 v2 v3 v4) a b
noncomputable def span_times_L0 (nf : Nat) : LC ((Int × Int × Unit) × Unit) := theL (findL tab (span_times_phi nf) (fun _ F => iter nf F) span_times_keep 0 0 (codeOf Try.f12) (fin tab [((Ty.int IntKind.i64).pair ((Ty.int IntKind.i64).pair Ty.unit), Md.bor false true)] Try.f12.results.toList) (fun _ _ => none) (fin tab [((Ty.int IntKind.i64).pair ((Ty.int IntKind.i64).pair Ty.unit), Md.bor false true)] Try.f12.results.toList))
def span_times_m0 (a : Int × Int × Unit) (b : Int × Int × Unit) (a2 : Int × Int × Unit) (b2 : Int × Int × Unit) (t4 : Int × Int × Unit) (out : Int × Int × Unit) (x : Int) : St := ⟨fresh, [(0, AV.v ((Ty.int IntKind.i64).pair ((Ty.int IntKind.i64).pair Ty.unit)) (Md.bor true false) a), (1, AV.v ((Ty.int IntKind.i64).pair ((Ty.int IntKind.i64).pair Ty.unit)) (Md.bor true false) b), (2, AV.box 2 500002 ((Ty.int IntKind.i64).pair ((Ty.int IntKind.i64).pair Ty.unit)) (Md.bor true false) a2), (3, AV.box 3 500003 ((Ty.int IntKind.i64).pair ((Ty.int IntKind.i64).pair Ty.unit)) (Md.bor true false) b2), (4, AV.box 4 500004 ((Ty.int IntKind.i64).pair ((Ty.int IntKind.i64).pair Ty.unit)) ((Md.bor false true).pair ((Md.bor false true).pair (Md.bor false true))) t4), (5, AV.box 5 500005 ((Ty.int IntKind.i64).pair ((Ty.int IntKind.i64).pair Ty.unit)) ((Md.bor false true).pair ((Md.bor false true).pair (Md.bor false false))) out), (6, AV.v (Ty.int IntKind.i64) (Md.bor false true) x)]⟩
noncomputable def span_times_L2 (nf : Nat) (G0 : St → Option ((Int × Int × Unit) × Unit)) : LC ((Int × Int × Unit) × Unit) := theL (findL tab (span_times_phi nf) (fun _ F => iter nf F) span_times_keep 2 0 (span_times_L0 nf ).c (fun st => norm (span_times_keep 0) st G0) (span_times_L0 nf ).Kx (span_times_L0 nf ).Kr)
def span_times_m2 (a : Int × Int × Unit) (b : Int × Int × Unit) (x : Int) (a3 : Int × Int × Unit) (b3 : Int × Int × Unit) (t42 : Int × Int × Unit) (out2 : Int × Int × Unit) (y : Int) : St := ⟨fresh, [(0, AV.v ((Ty.int IntKind.i64).pair ((Ty.int IntKind.i64).pair Ty.unit)) (Md.bor true false) a), (1, AV.v ((Ty.int IntKind.i64).pair ((Ty.int IntKind.i64).pair Ty.unit)) (Md.bor true false) b), (2, AV.box 2 500002 ((Ty.int IntKind.i64).pair ((Ty.int IntKind.i64).pair Ty.unit)) (Md.bor true false) a3), (3, AV.box 3 500003 ((Ty.int IntKind.i64).pair ((Ty.int IntKind.i64).pair Ty.unit)) (Md.bor true false) b3), (4, AV.box 4 500004 ((Ty.int IntKind.i64).pair ((Ty.int IntKind.i64).pair Ty.unit)) ((Md.bor false true).pair ((Md.bor false true).pair (Md.bor false true))) t42), (5, AV.box 5 500005 ((Ty.int IntKind.i64).pair ((Ty.int IntKind.i64).pair Ty.unit)) ((Md.bor false true).pair ((Md.bor false true).pair (Md.bor false false))) out2), (6, AV.v (Ty.int IntKind.i64) (Md.bor false true) x), (7, AV.v (Ty.int IntKind.i64) (Md.bor false true) y)]⟩
theorem span_times_h2 (nf : Nat) (G0 : St → Option ((Int × Int × Unit) × Unit)) (a : Int × Int × Unit) (b : Int × Int × Unit) (x : Int) (fu : Nat) (a3 : Int × Int × Unit) (b3 : Int × Int × Unit) (t42 : Int × Int × Unit) (out2 : Int × Int × Unit) (y : Int) : iter (fu + 1) (LC.F tab (span_times_phi nf) (fun _ F => iter nf F) span_times_keep 2 (span_times_L2 nf G0)) (span_times_m2 a b x a3 b3 t42 out2 y) = span_times_b2 nf  a b x (fun a2 b2 t4 out x => G0 (span_times_m0 a b a2 b2 t4 out x)) (fun a3 b3 t42 out2 y => iter fu (LC.F tab (span_times_phi nf) (fun _ F => iter nf F) span_times_keep 2 (span_times_L2 nf G0)) (span_times_m2 a b x a3 b3 t42 out2 y)) a3 b3 t42 out2 y := by kernel_rfl
theorem span_times_e2 (nf : Nat) (G0 : St → Option ((Int × Int × Unit) × Unit)) (a : Int × Int × Unit) (b : Int × Int × Unit) (x : Int) : ∀ (fu : Nat) (a3 : Int × Int × Unit) (b3 : Int × Int × Unit) (t42 : Int × Int × Unit) (out2 : Int × Int × Unit) (y : Int), iter fu (LC.F tab (span_times_phi nf) (fun _ F => iter nf F) span_times_keep 2 (span_times_L2 nf G0)) (span_times_m2 a b x a3 b3 t42 out2 y) = span_times_l2 nf a b x (fun a2 b2 t4 out x => G0 (span_times_m0 a b a2 b2 t4 out x)) fu a3 b3 t42 out2 y := by
  intro fu
  induction fu with
  | zero => intros; rfl
  | succ fu ih =>
    intro a3 b3 t42 out2 y
    rw [span_times_h2 nf G0 a b x fu a3 b3 t42 out2 y]
    simp only [ih]
    rfl
theorem span_times_h0 (nf : Nat)  (a : Int × Int × Unit) (b : Int × Int × Unit) (fu : Nat) (a2 : Int × Int × Unit) (b2 : Int × Int × Unit) (t4 : Int × Int × Unit) (out : Int × Int × Unit) (x : Int) : iter (fu + 1) (LC.F tab (span_times_phi nf) (fun _ F => iter nf F) span_times_keep 0 (span_times_L0 nf )) (span_times_m0 a b a2 b2 t4 out x) = span_times_b0 nf (fun _ _ p2 v0 v1 v2 v3 v4 => iter nf (LC.F tab (span_times_phi nf) (fun _ F => iter nf F) span_times_keep 2 (span_times_L2 nf (iter fu (LC.F tab (span_times_phi nf) (fun _ F => iter nf F) span_times_keep 0 (span_times_L0 nf ))))) (span_times_m2 a b p2 v0 v1 v2 v3 v4)) a b  (fun a2 b2 t4 out x => iter fu (LC.F tab (span_times_phi nf) (fun _ F => iter nf F) span_times_keep 0 (span_times_L0 nf )) (span_times_m0 a b a2 b2 t4 out x)) a2 b2 t4 out x := by kernel_rfl
theorem span_times_e0 (nf : Nat)  (a : Int × Int × Unit) (b : Int × Int × Unit) : ∀ (fu : Nat) (a2 : Int × Int × Unit) (b2 : Int × Int × Unit) (t4 : Int × Int × Unit) (out : Int × Int × Unit) (x : Int), iter fu (LC.F tab (span_times_phi nf) (fun _ F => iter nf F) span_times_keep 0 (span_times_L0 nf )) (span_times_m0 a b a2 b2 t4 out x) = span_times_l0 nf a b  fu a2 b2 t4 out x := by
  intro fu
  induction fu with
  | zero => intros; rfl
  | succ fu ih =>
    intro a2 b2 t4 out x
    rw [span_times_h0 nf  a b fu a2 b2 t4 out x]
    simp only [ih, span_times_e2]
    rfl
theorem span_times_eq (nf : Nat) (a : Int × Int × Unit) (b : Int × Int × Unit) : runF tab (span_times_phi nf) span_times_keep nf [PT.val ((Ty.int IntKind.i64).pair ((Ty.int IntKind.i64).pair Ty.unit)) (Md.bor true false), PT.val ((Ty.int IntKind.i64).pair ((Ty.int IntKind.i64).pair Ty.unit)) (Md.bor true false)] [((Ty.int IntKind.i64).pair ((Ty.int IntKind.i64).pair Ty.unit), Md.bor false true)] Try.f12.results.toList (codeOf Try.f12) ⟨a, b, ()⟩ = span_times_f nf a b := by
  have h : runF tab (span_times_phi nf) span_times_keep nf [PT.val ((Ty.int IntKind.i64).pair ((Ty.int IntKind.i64).pair Ty.unit)) (Md.bor true false), PT.val ((Ty.int IntKind.i64).pair ((Ty.int IntKind.i64).pair Ty.unit)) (Md.bor true false)] [((Ty.int IntKind.i64).pair ((Ty.int IntKind.i64).pair Ty.unit), Md.bor false true)] Try.f12.results.toList (codeOf Try.f12) ⟨a, b, ()⟩ = span_times_p nf (fun p0 p1 v0 v1 v2 v3 v4 => iter nf (LC.F tab (span_times_phi nf) (fun _ F => iter nf F) span_times_keep 0 (span_times_L0 nf)) (span_times_m0 p0 p1 v0 v1 v2 v3 v4)) a b := by kernel_rfl
  rw [h]
  simp only [span_times_e0]
  rfl
def span_times_F (nf : Nat) (x : denPs [.val (.pair (.int .i64) (.pair (.int .i64) (.unit))) (.bor true false), .val (.pair (.int .i64) (.pair (.int .i64) (.unit))) (.bor true false)]) : Option (denL [(.pair (.int .i64) (.pair (.int .i64) (.unit)), .bor false true)]) := span_times_f nf x.1 x.2.1
def span_times_C (nf : Nat) : Contract := ⟨[.val (.pair (.int .i64) (.pair (.int .i64) (.unit))) (.bor true false), .val (.pair (.int .i64) (.pair (.int .i64) (.unit))) (.bor true false)], [(.pair (.int .i64) (.pair (.int .i64) (.unit)), .bor false true)], span_times_F nf⟩
theorem span_times_ok : FnOK Try.prog 12 := ⟨Try.f12, codeOf Try.f12, Try.func12, by kernel_rfl, by kernel_rfl⟩
theorem span_times_holds (nf : Nat) : Contract.Holds Try.prog 12 (span_times_C nf) :=
  fn_holds (Φ := span_times_phi nf) (keep := span_times_keep) (n := nf) ⟨tabs.1, tabs.2, (ctx_cons term_Do_ok (term_Do_holds nf) ctx_nil), mixed⟩ (fn := Try.f12) ⟨Try.func12, by kernel_rfl, by kernel_rfl, by kernel_rfl⟩ (fun x => span_times_eq nf x.1 x.2.1)

/-! codemason span.do -/
def span_do_phi (nf : Nat) : Nat → Option Contract := lookC [(11, span_wrap_C nf), (12, span_times_C nf)]
def span_do_keep : Nat → List Nat := lookK []
def span_do_p (nf : Nat)  (op : Int) (a : Int × Int × Unit) (b : Int × Int × Unit) : Option ((Int × Int × Unit) × Unit) :=
  bif op == 3 then
    Option.bind (span_wrap_f nf (IntKind.i64.wrap (a.fst + b.fst)) (IntKind.i64.wrap (a.snd.fst + b.snd.fst))) fun r =>
    some ((r.fst, ()))
  else
    bif op == 4 then
      Option.bind (span_wrap_f nf (IntKind.i64.wrap (a.fst - b.snd.fst)) (IntKind.i64.wrap (a.snd.fst - b.fst))) fun r2 =>
      some ((r2.fst, ()))
    else
      bif op == 5 then
        bif decide (IntKind.i64.wrap (a.snd.fst * b.snd.fst) < 256) then
          some (((IntKind.i64.wrap (a.fst * b.fst), IntKind.i64.wrap (a.snd.fst * b.snd.fst), ()), ()))
        else
          Option.bind (span_times_f nf a b) fun r3 =>
          some ((r3.fst, ()))
      else
        bif decide (a.snd.fst < b.fst) then
          bif decide (a.fst ≥ b.snd.fst) then
            some (((1, 0, ()), ()))
          else
            some (((1, 1, ()), ()))
        else
          bif decide (a.fst ≥ b.snd.fst) then
            some (((0, 0, ()), ()))
          else
            some (((0, 1, ()), ()))
def span_do_f (nf : Nat) (op : Int) (a : Int × Int × Unit) (b : Int × Int × Unit) : Option ((Int × Int × Unit) × Unit) := span_do_p nf  op a b
theorem span_do_eq (nf : Nat) (op : Int) (a : Int × Int × Unit) (b : Int × Int × Unit) : runF tab (span_do_phi nf) span_do_keep nf [PT.val (Ty.int IntKind.i64) (Md.bor true false), PT.val ((Ty.int IntKind.i64).pair ((Ty.int IntKind.i64).pair Ty.unit)) (Md.bor true false), PT.val ((Ty.int IntKind.i64).pair ((Ty.int IntKind.i64).pair Ty.unit)) (Md.bor true false)] [((Ty.int IntKind.i64).pair ((Ty.int IntKind.i64).pair Ty.unit), Md.bor false true)] Try.f8.results.toList (codeOf Try.f8) ⟨op, a, b, ()⟩ = span_do_f nf op a b := by
  have h : runF tab (span_do_phi nf) span_do_keep nf [PT.val (Ty.int IntKind.i64) (Md.bor true false), PT.val ((Ty.int IntKind.i64).pair ((Ty.int IntKind.i64).pair Ty.unit)) (Md.bor true false), PT.val ((Ty.int IntKind.i64).pair ((Ty.int IntKind.i64).pair Ty.unit)) (Md.bor true false)] [((Ty.int IntKind.i64).pair ((Ty.int IntKind.i64).pair Ty.unit), Md.bor false true)] Try.f8.results.toList (codeOf Try.f8) ⟨op, a, b, ()⟩ = span_do_p nf  op a b := by kernel_rfl
  exact h
def span_do_F (nf : Nat) (x : denPs [.val (.int .i64) (.bor true false), .val (.pair (.int .i64) (.pair (.int .i64) (.unit))) (.bor true false), .val (.pair (.int .i64) (.pair (.int .i64) (.unit))) (.bor true false)]) : Option (denL [(.pair (.int .i64) (.pair (.int .i64) (.unit)), .bor false true)]) := span_do_f nf x.1 x.2.1 x.2.2.1
def span_do_C (nf : Nat) : Contract := ⟨[.val (.int .i64) (.bor true false), .val (.pair (.int .i64) (.pair (.int .i64) (.unit))) (.bor true false), .val (.pair (.int .i64) (.pair (.int .i64) (.unit))) (.bor true false)], [(.pair (.int .i64) (.pair (.int .i64) (.unit)), .bor false true)], span_do_F nf⟩
theorem span_do_ok : FnOK Try.prog 8 := ⟨Try.f8, codeOf Try.f8, Try.func8, by kernel_rfl, by kernel_rfl⟩
theorem span_do_holds (nf : Nat) : Contract.Holds Try.prog 8 (span_do_C nf) :=
  fn_holds (Φ := span_do_phi nf) (keep := span_do_keep) (n := nf) ⟨tabs.1, tabs.2, (ctx_cons span_wrap_ok (span_wrap_holds nf) (ctx_cons span_times_ok (span_times_holds nf) ctx_nil)), mixed⟩ (fn := Try.f8) ⟨Try.func8, by kernel_rfl, by kernel_rfl, by kernel_rfl⟩ (fun x => span_do_eq nf x.1 x.2.1 x.2.2.1)

/-! codemason span.Do -/
def span_Do_phi (nf : Nat) : Nat → Option Contract := lookC [(7, span_is_C nf), (8, span_do_C nf)]
def span_Do_keep : Nat → List Nat := lookK []
def span_Do_p (nf : Nat)  (op : Int) (a : Int × Int × Unit) (b : Int × Int × Unit) : Option ((Int × Int × Unit) × Int × Unit) :=
  bif decide (op < 3) then
    some (((0, 0, ()), 6, ()))
  else
    bif decide (op > 6) then
      some (((0, 0, ()), 6, ()))
    else
      Option.bind (span_is_f nf a) fun r =>
      bif !r.fst then
        some (((0, 0, ()), 4, ()))
      else
        Option.bind (span_is_f nf b) fun r2 =>
        bif !r2.fst then
          some (((0, 0, ()), 4, ()))
        else
          Option.bind (span_do_f nf op a b) fun r3 =>
          some ((r3.fst, 0, ()))
def span_Do_f (nf : Nat) (op : Int) (a : Int × Int × Unit) (b : Int × Int × Unit) : Option ((Int × Int × Unit) × Int × Unit) := span_Do_p nf  op a b
theorem span_Do_eq (nf : Nat) (op : Int) (a : Int × Int × Unit) (b : Int × Int × Unit) : runF tab (span_Do_phi nf) span_Do_keep nf [PT.val (Ty.int IntKind.i64) (Md.bor true false), PT.val ((Ty.int IntKind.i64).pair ((Ty.int IntKind.i64).pair Ty.unit)) (Md.bor true false), PT.val ((Ty.int IntKind.i64).pair ((Ty.int IntKind.i64).pair Ty.unit)) (Md.bor true false)] [((Ty.int IntKind.i64).pair ((Ty.int IntKind.i64).pair Ty.unit), Md.bor false true), (Ty.int IntKind.i64, Md.bor false true)] Try.f4.results.toList (codeOf Try.f4) ⟨op, a, b, ()⟩ = span_Do_f nf op a b := by
  have h : runF tab (span_Do_phi nf) span_Do_keep nf [PT.val (Ty.int IntKind.i64) (Md.bor true false), PT.val ((Ty.int IntKind.i64).pair ((Ty.int IntKind.i64).pair Ty.unit)) (Md.bor true false), PT.val ((Ty.int IntKind.i64).pair ((Ty.int IntKind.i64).pair Ty.unit)) (Md.bor true false)] [((Ty.int IntKind.i64).pair ((Ty.int IntKind.i64).pair Ty.unit), Md.bor false true), (Ty.int IntKind.i64, Md.bor false true)] Try.f4.results.toList (codeOf Try.f4) ⟨op, a, b, ()⟩ = span_Do_p nf  op a b := by kernel_rfl
  exact h
def span_Do_F (nf : Nat) (x : denPs [.val (.int .i64) (.bor true false), .val (.pair (.int .i64) (.pair (.int .i64) (.unit))) (.bor true false), .val (.pair (.int .i64) (.pair (.int .i64) (.unit))) (.bor true false)]) : Option (denL [(.pair (.int .i64) (.pair (.int .i64) (.unit)), .bor false true), (.int .i64, .bor false true)]) := span_Do_f nf x.1 x.2.1 x.2.2.1
def span_Do_C (nf : Nat) : Contract := ⟨[.val (.int .i64) (.bor true false), .val (.pair (.int .i64) (.pair (.int .i64) (.unit))) (.bor true false), .val (.pair (.int .i64) (.pair (.int .i64) (.unit))) (.bor true false)], [(.pair (.int .i64) (.pair (.int .i64) (.unit)), .bor false true), (.int .i64, .bor false true)], span_Do_F nf⟩
theorem span_Do_ok : FnOK Try.prog 4 := ⟨Try.f4, codeOf Try.f4, Try.func4, by kernel_rfl, by kernel_rfl⟩
theorem span_Do_holds (nf : Nat) : Contract.Holds Try.prog 4 (span_Do_C nf) :=
  fn_holds (Φ := span_Do_phi nf) (keep := span_Do_keep) (n := nf) ⟨tabs.1, tabs.2, (ctx_cons span_is_ok (span_is_holds nf) (ctx_cons span_do_ok (span_do_holds nf) ctx_nil)), mixed⟩ (fn := Try.f4) ⟨Try.func4, by kernel_rfl, by kernel_rfl, by kernel_rfl⟩ (fun x => span_Do_eq nf x.1 x.2.1 x.2.2.1)

/-! codemason codemasonref.Value -/
def ref_Value_phi (nf : Nat) : Nat → Option Contract := lookC []
def ref_Value_keep : Nat → List Nat := lookK []
def ref_Value_p (nf : Nat)  (x : Int) : Option (Bool × Unit) :=
  bif decide (x ≥ 0) then
    some ((decide (x ≤ 255), ()))
  else
    some ((false, ()))
def ref_Value_f (nf : Nat) (x : Int) : Option (Bool × Unit) := ref_Value_p nf  x
theorem ref_Value_eq (nf : Nat) (x : Int) : runF tab (ref_Value_phi nf) ref_Value_keep nf [PT.val (Ty.int IntKind.i64) (Md.bor true false)] [(Ty.bool, Md.bor false true)] Try.f9.results.toList (codeOf Try.f9) ⟨x, ()⟩ = ref_Value_f nf x := by
  have h : runF tab (ref_Value_phi nf) ref_Value_keep nf [PT.val (Ty.int IntKind.i64) (Md.bor true false)] [(Ty.bool, Md.bor false true)] Try.f9.results.toList (codeOf Try.f9) ⟨x, ()⟩ = ref_Value_p nf  x := by kernel_rfl
  exact h
def ref_Value_F (nf : Nat) (x : denPs [.val (.int .i64) (.bor true false)]) : Option (denL [(.bool, .bor false true)]) := ref_Value_f nf x.1
def ref_Value_C (nf : Nat) : Contract := ⟨[.val (.int .i64) (.bor true false)], [(.bool, .bor false true)], ref_Value_F nf⟩
theorem ref_Value_ok : FnOK Try.prog 9 := ⟨Try.f9, codeOf Try.f9, Try.func9, by kernel_rfl, by kernel_rfl⟩
theorem ref_Value_holds (nf : Nat) : Contract.Holds Try.prog 9 (ref_Value_C nf) :=
  fn_holds (Φ := ref_Value_phi nf) (keep := ref_Value_keep) (n := nf) ⟨tabs.1, tabs.2, ctx_nil, mixed⟩ (fn := Try.f9) ⟨Try.func9, by kernel_rfl, by kernel_rfl, by kernel_rfl⟩ (fun x => ref_Value_eq nf x.1)

/-! codemason codemasonref.IsSpan -/
def ref_IsSpan_phi (nf : Nat) : Nat → Option Contract := lookC [(9, ref_Value_C nf)]
def ref_IsSpan_keep : Nat → List Nat := lookK []
def ref_IsSpan_p (nf : Nat)  (s : Int × Int × Unit) : Option (Bool × Unit) :=
  Option.bind (ref_Value_f nf s.fst) fun r =>
  bif r.fst then
    Option.bind (ref_Value_f nf s.snd.fst) fun r2 =>
    bif r2.fst then
      some ((decide (s.fst ≤ s.snd.fst), ()))
    else
      some ((false, ()))
  else
    some ((false, ()))
def ref_IsSpan_f (nf : Nat) (s : Int × Int × Unit) : Option (Bool × Unit) := ref_IsSpan_p nf  s
theorem ref_IsSpan_eq (nf : Nat) (s : Int × Int × Unit) : runF tab (ref_IsSpan_phi nf) ref_IsSpan_keep nf [PT.val ((Ty.int IntKind.i64).pair ((Ty.int IntKind.i64).pair Ty.unit)) (Md.bor true false)] [(Ty.bool, Md.bor false true)] Try.f5.results.toList (codeOf Try.f5) ⟨s, ()⟩ = ref_IsSpan_f nf s := by
  have h : runF tab (ref_IsSpan_phi nf) ref_IsSpan_keep nf [PT.val ((Ty.int IntKind.i64).pair ((Ty.int IntKind.i64).pair Ty.unit)) (Md.bor true false)] [(Ty.bool, Md.bor false true)] Try.f5.results.toList (codeOf Try.f5) ⟨s, ()⟩ = ref_IsSpan_p nf  s := by kernel_rfl
  exact h
def ref_IsSpan_F (nf : Nat) (x : denPs [.val (.pair (.int .i64) (.pair (.int .i64) (.unit))) (.bor true false)]) : Option (denL [(.bool, .bor false true)]) := ref_IsSpan_f nf x.1
def ref_IsSpan_C (nf : Nat) : Contract := ⟨[.val (.pair (.int .i64) (.pair (.int .i64) (.unit))) (.bor true false)], [(.bool, .bor false true)], ref_IsSpan_F nf⟩
theorem ref_IsSpan_ok : FnOK Try.prog 5 := ⟨Try.f5, codeOf Try.f5, Try.func5, by kernel_rfl, by kernel_rfl⟩
theorem ref_IsSpan_holds (nf : Nat) : Contract.Holds Try.prog 5 (ref_IsSpan_C nf) :=
  fn_holds (Φ := ref_IsSpan_phi nf) (keep := ref_IsSpan_keep) (n := nf) ⟨tabs.1, tabs.2, (ctx_cons ref_Value_ok (ref_Value_holds nf) ctx_nil), mixed⟩ (fn := Try.f5) ⟨Try.func5, by kernel_rfl, by kernel_rfl, by kernel_rfl⟩ (fun x => ref_IsSpan_eq nf x.1)

/-! codemason codemasonref.Op -/
def ref_Op_phi (nf : Nat) : Nat → Option Contract := lookC []
def ref_Op_keep : Nat → List Nat := lookK []
def ref_Op_p (nf : Nat)  (op : Int) (a : Int) (b : Int) : Option (Int × Unit) :=
  bif op == 3 then
    bif op == 4 then
      bif op == 5 then
        bif op == 6 then
          bif decide (a < b) then
            some ((Int.tmod 1 256, ()))
          else
            some (((IntKind.i64.wrap (a * b)).tmod 256, ()))
        else
          some (((IntKind.i64.wrap (a * b)).tmod 256, ()))
      else
        bif op == 6 then
          bif decide (a < b) then
            some ((Int.tmod 1 256, ()))
          else
            some (((IntKind.i64.wrap (IntKind.i64.wrap (a - b) + 256)).tmod 256, ()))
        else
          some (((IntKind.i64.wrap (IntKind.i64.wrap (a - b) + 256)).tmod 256, ()))
    else
      bif op == 5 then
        bif op == 6 then
          bif decide (a < b) then
            some ((Int.tmod 1 256, ()))
          else
            some (((IntKind.i64.wrap (a * b)).tmod 256, ()))
        else
          some (((IntKind.i64.wrap (a * b)).tmod 256, ()))
      else
        bif op == 6 then
          bif decide (a < b) then
            some ((Int.tmod 1 256, ()))
          else
            some (((IntKind.i64.wrap (a + b)).tmod 256, ()))
        else
          some (((IntKind.i64.wrap (a + b)).tmod 256, ()))
  else
    bif op == 4 then
      bif op == 5 then
        bif op == 6 then
          bif decide (a < b) then
            some ((Int.tmod 1 256, ()))
          else
            some (((IntKind.i64.wrap (a * b)).tmod 256, ()))
        else
          some (((IntKind.i64.wrap (a * b)).tmod 256, ()))
      else
        bif op == 6 then
          bif decide (a < b) then
            some ((Int.tmod 1 256, ()))
          else
            some (((IntKind.i64.wrap (IntKind.i64.wrap (a - b) + 256)).tmod 256, ()))
        else
          some (((IntKind.i64.wrap (IntKind.i64.wrap (a - b) + 256)).tmod 256, ()))
    else
      bif op == 5 then
        bif op == 6 then
          bif decide (a < b) then
            some ((Int.tmod 1 256, ()))
          else
            some (((IntKind.i64.wrap (a * b)).tmod 256, ()))
        else
          some (((IntKind.i64.wrap (a * b)).tmod 256, ()))
      else
        bif op == 6 then
          bif decide (a < b) then
            some ((Int.tmod 1 256, ()))
          else
            some ((Int.tmod 0 256, ()))
        else
          some ((Int.tmod 0 256, ()))
def ref_Op_f (nf : Nat) (op : Int) (a : Int) (b : Int) : Option (Int × Unit) := ref_Op_p nf  op a b
theorem ref_Op_eq (nf : Nat) (op : Int) (a : Int) (b : Int) : runF tab (ref_Op_phi nf) ref_Op_keep nf [PT.val (Ty.int IntKind.i64) (Md.bor true false), PT.val (Ty.int IntKind.i64) (Md.bor true false), PT.val (Ty.int IntKind.i64) (Md.bor true false)] [(Ty.int IntKind.i64, Md.bor false true)] Try.f10.results.toList (codeOf Try.f10) ⟨op, a, b, ()⟩ = ref_Op_f nf op a b := by
  have h : runF tab (ref_Op_phi nf) ref_Op_keep nf [PT.val (Ty.int IntKind.i64) (Md.bor true false), PT.val (Ty.int IntKind.i64) (Md.bor true false), PT.val (Ty.int IntKind.i64) (Md.bor true false)] [(Ty.int IntKind.i64, Md.bor false true)] Try.f10.results.toList (codeOf Try.f10) ⟨op, a, b, ()⟩ = ref_Op_p nf  op a b := by kernel_rfl
  exact h
def ref_Op_F (nf : Nat) (x : denPs [.val (.int .i64) (.bor true false), .val (.int .i64) (.bor true false), .val (.int .i64) (.bor true false)]) : Option (denL [(.int .i64, .bor false true)]) := ref_Op_f nf x.1 x.2.1 x.2.2.1
def ref_Op_C (nf : Nat) : Contract := ⟨[.val (.int .i64) (.bor true false), .val (.int .i64) (.bor true false), .val (.int .i64) (.bor true false)], [(.int .i64, .bor false true)], ref_Op_F nf⟩
theorem ref_Op_ok : FnOK Try.prog 10 := ⟨Try.f10, codeOf Try.f10, Try.func10, by kernel_rfl, by kernel_rfl⟩
theorem ref_Op_holds (nf : Nat) : Contract.Holds Try.prog 10 (ref_Op_C nf) :=
  fn_holds (Φ := ref_Op_phi nf) (keep := ref_Op_keep) (n := nf) ⟨tabs.1, tabs.2, ctx_nil, mixed⟩ (fn := Try.f10) ⟨Try.func10, by kernel_rfl, by kernel_rfl, by kernel_rfl⟩ (fun x => ref_Op_eq nf x.1 x.2.1 x.2.2.1)

/-! codemason codemasonref.SpanDo -/
def ref_SpanDo_phi (nf : Nat) : Nat → Option Contract := lookC [(10, ref_Op_C nf)]
def ref_SpanDo_keep : Nat → List Nat := lookK [(2, [0, 1, 2, 4, 5, 6, 7, 8, 9]), (0, [0, 1, 2, 4, 5, 6, 7, 8])]
def ref_SpanDo_b0 (nf : Nat) (l2 : Int → Int × Int × Unit → Int × Int × Unit → Int → Int × Int × Unit → Int × Int × Unit → Int × Int × Unit → Int × Int × Unit → Int → Option ((Int × Int × Unit) × Unit)) (op : Int) (a : Int × Int × Unit) (b : Int × Int × Unit) (g0 : Int × Int × Unit → Int × Int × Unit → Int × Int × Unit → Int × Int × Unit → Int → Option ((Int × Int × Unit) × Unit)) (a2 : Int × Int × Unit) (b2 : Int × Int × Unit) (t6 : Int × Int × Unit) (out : Int × Int × Unit) (x : Int) : Option ((Int × Int × Unit) × Unit) :=
  bif decide (x ≤ a2.snd.fst) then
    l2 op a b x a2 b2 t6 out b2.fst
  else
    some ((out, ()))
def ref_SpanDo_b2 (nf : Nat) (op : Int) (a : Int × Int × Unit) (b : Int × Int × Unit) (x : Int) (g0 : Int × Int × Unit → Int × Int × Unit → Int × Int × Unit → Int × Int × Unit → Int → Option ((Int × Int × Unit) × Unit)) (g2 : Int × Int × Unit → Int × Int × Unit → Int × Int × Unit → Int × Int × Unit → Int → Option ((Int × Int × Unit) × Unit)) (a3 : Int × Int × Unit) (b3 : Int × Int × Unit) (t62 : Int × Int × Unit) (out2 : Int × Int × Unit) (y : Int) : Option ((Int × Int × Unit) × Unit) :=
  bif decide (y ≤ b3.snd.fst) then
    Option.bind (ref_Op_f nf op x y) fun r =>
    bif decide (r.fst < out2.fst) then
      bif decide (r.fst > out2.snd.fst) then
        bif r.fst == 0 then
          bif r.fst == 255 then
            some (((r.fst, r.fst, out2.snd.snd), ()))
          else
            g2 a3 b3 t62 ((r.fst, r.fst, out2.snd.snd)) (IntKind.i64.wrap (y + 1))
        else
          g2 a3 b3 t62 ((r.fst, r.fst, out2.snd.snd)) (IntKind.i64.wrap (y + 1))
      else
        bif r.fst == 0 then
          bif out2.snd.fst == 255 then
            some (((r.fst, out2.snd), ()))
          else
            g2 a3 b3 t62 ((r.fst, out2.snd)) (IntKind.i64.wrap (y + 1))
        else
          g2 a3 b3 t62 ((r.fst, out2.snd)) (IntKind.i64.wrap (y + 1))
    else
      bif decide (r.fst > out2.snd.fst) then
        bif out2.fst == 0 then
          bif r.fst == 255 then
            some (((out2.fst, r.fst, out2.snd.snd), ()))
          else
            g2 a3 b3 t62 ((out2.fst, r.fst, out2.snd.snd)) (IntKind.i64.wrap (y + 1))
        else
          g2 a3 b3 t62 ((out2.fst, r.fst, out2.snd.snd)) (IntKind.i64.wrap (y + 1))
      else
        bif out2.fst == 0 then
          bif out2.snd.fst == 255 then
            some ((out2, ()))
          else
            g2 a3 b3 t62 out2 (IntKind.i64.wrap (y + 1))
        else
          g2 a3 b3 t62 out2 (IntKind.i64.wrap (y + 1))
  else
    g0 a3 b3 t62 out2 (IntKind.i64.wrap (x + 1))
def ref_SpanDo_p (nf : Nat) (l0 : Int → Int × Int × Unit → Int × Int × Unit → Int × Int × Unit → Int × Int × Unit → Int × Int × Unit → Int × Int × Unit → Int → Option ((Int × Int × Unit) × Unit)) (op : Int) (a : Int × Int × Unit) (b : Int × Int × Unit) : Option ((Int × Int × Unit) × Unit) :=
  l0 op a b a b ((0, 0, ())) ((255, 0, ())) a.fst
def ref_SpanDo_l2 (nf : Nat) (op : Int) (a : Int × Int × Unit) (b : Int × Int × Unit) (x : Int) (g0 : Int × Int × Unit → Int × Int × Unit → Int × Int × Unit → Int × Int × Unit → Int → Option ((Int × Int × Unit) × Unit)) : Nat → Int × Int × Unit → Int × Int × Unit → Int × Int × Unit → Int × Int × Unit → Int → Option ((Int × Int × Unit) × Unit)
  | 0, _, _, _, _, _ => none
  | fu + 1, a3, b3, t62, out2, y => ref_SpanDo_b2 nf  op a b x g0 (ref_SpanDo_l2 nf op a b x g0 fu) a3 b3 t62 out2 y
def ref_SpanDo_l0 (nf : Nat) (op : Int) (a : Int × Int × Unit) (b : Int × Int × Unit) : Nat → Int × Int × Unit → Int × Int × Unit → Int × Int × Unit → Int × Int × Unit → Int → Option ((Int × Int × Unit) × Unit)
  | 0, _, _, _, _, _ => none
  | fu + 1, a2, b2, t6, out, x => ref_SpanDo_b0 nf (fun _ _ _ p3 v0 v1 v2 v3 v4 => ref_SpanDo_l2 nf op a b p3 (fun a2 b2 t6 out x => ref_SpanDo_l0 nf op a b  fu a2 b2 t6 out x) nf v0 v1 v2 v3 v4) op a b  (ref_SpanDo_l0 nf op a b  fu) a2 b2 t6 out x
def ref_SpanDo_f (nf : Nat) (op : Int) (a : Int × Int × Unit) (b : Int × Int × Unit) : Option ((Int × Int × Unit) × Unit) := ref_SpanDo_p nf (fun p0 p1 p2 v0 v1 v2 v3 v4 => ref_SpanDo_l0 nf p0 p1 p2 nf v0 v1 v2 v3 v4) op a b
noncomputable def ref_SpanDo_L0 (nf : Nat) : LC ((Int × Int × Unit) × Unit) := theL (findL tab (ref_SpanDo_phi nf) (fun _ F => iter nf F) ref_SpanDo_keep 0 0 (codeOf Try.f6) (fin tab [((Ty.int IntKind.i64).pair ((Ty.int IntKind.i64).pair Ty.unit), Md.bor false true)] Try.f6.results.toList) (fun _ _ => none) (fin tab [((Ty.int IntKind.i64).pair ((Ty.int IntKind.i64).pair Ty.unit), Md.bor false true)] Try.f6.results.toList))
def ref_SpanDo_m0 (op : Int) (a : Int × Int × Unit) (b : Int × Int × Unit) (a2 : Int × Int × Unit) (b2 : Int × Int × Unit) (t6 : Int × Int × Unit) (out : Int × Int × Unit) (x : Int) : St := ⟨fresh, [(0, AV.v (Ty.int IntKind.i64) (Md.bor false true) op), (1, AV.v ((Ty.int IntKind.i64).pair ((Ty.int IntKind.i64).pair Ty.unit)) (Md.bor true false) a), (2, AV.v ((Ty.int IntKind.i64).pair ((Ty.int IntKind.i64).pair Ty.unit)) (Md.bor true false) b), (4, AV.box 4 500004 ((Ty.int IntKind.i64).pair ((Ty.int IntKind.i64).pair Ty.unit)) (Md.bor true false) a2), (5, AV.box 5 500005 ((Ty.int IntKind.i64).pair ((Ty.int IntKind.i64).pair Ty.unit)) (Md.bor true false) b2), (6, AV.box 6 500006 ((Ty.int IntKind.i64).pair ((Ty.int IntKind.i64).pair Ty.unit)) ((Md.bor false true).pair ((Md.bor false true).pair (Md.bor false true))) t6), (7, AV.box 7 500007 ((Ty.int IntKind.i64).pair ((Ty.int IntKind.i64).pair Ty.unit)) ((Md.bor false true).pair ((Md.bor false true).pair (Md.bor false false))) out), (8, AV.v (Ty.int IntKind.i64) (Md.bor false true) x)]⟩
noncomputable def ref_SpanDo_L2 (nf : Nat) (G0 : St → Option ((Int × Int × Unit) × Unit)) : LC ((Int × Int × Unit) × Unit) := theL (findL tab (ref_SpanDo_phi nf) (fun _ F => iter nf F) ref_SpanDo_keep 2 0 (ref_SpanDo_L0 nf ).c (fun st => norm (ref_SpanDo_keep 0) st G0) (ref_SpanDo_L0 nf ).Kx (ref_SpanDo_L0 nf ).Kr)
def ref_SpanDo_m2 (op : Int) (a : Int × Int × Unit) (b : Int × Int × Unit) (x : Int) (a3 : Int × Int × Unit) (b3 : Int × Int × Unit) (t62 : Int × Int × Unit) (out2 : Int × Int × Unit) (y : Int) : St := ⟨fresh, [(0, AV.v (Ty.int IntKind.i64) (Md.bor false true) op), (1, AV.v ((Ty.int IntKind.i64).pair ((Ty.int IntKind.i64).pair Ty.unit)) (Md.bor true false) a), (2, AV.v ((Ty.int IntKind.i64).pair ((Ty.int IntKind.i64).pair Ty.unit)) (Md.bor true false) b), (4, AV.box 4 500004 ((Ty.int IntKind.i64).pair ((Ty.int IntKind.i64).pair Ty.unit)) (Md.bor true false) a3), (5, AV.box 5 500005 ((Ty.int IntKind.i64).pair ((Ty.int IntKind.i64).pair Ty.unit)) (Md.bor true false) b3), (6, AV.box 6 500006 ((Ty.int IntKind.i64).pair ((Ty.int IntKind.i64).pair Ty.unit)) ((Md.bor false true).pair ((Md.bor false true).pair (Md.bor false true))) t62), (7, AV.box 7 500007 ((Ty.int IntKind.i64).pair ((Ty.int IntKind.i64).pair Ty.unit)) ((Md.bor false true).pair ((Md.bor false true).pair (Md.bor false false))) out2), (8, AV.v (Ty.int IntKind.i64) (Md.bor false true) x), (9, AV.v (Ty.int IntKind.i64) (Md.bor false true) y)]⟩
theorem ref_SpanDo_h2 (nf : Nat) (G0 : St → Option ((Int × Int × Unit) × Unit)) (op : Int) (a : Int × Int × Unit) (b : Int × Int × Unit) (x : Int) (fu : Nat) (a3 : Int × Int × Unit) (b3 : Int × Int × Unit) (t62 : Int × Int × Unit) (out2 : Int × Int × Unit) (y : Int) : iter (fu + 1) (LC.F tab (ref_SpanDo_phi nf) (fun _ F => iter nf F) ref_SpanDo_keep 2 (ref_SpanDo_L2 nf G0)) (ref_SpanDo_m2 op a b x a3 b3 t62 out2 y) = ref_SpanDo_b2 nf  op a b x (fun a2 b2 t6 out x => G0 (ref_SpanDo_m0 op a b a2 b2 t6 out x)) (fun a3 b3 t62 out2 y => iter fu (LC.F tab (ref_SpanDo_phi nf) (fun _ F => iter nf F) ref_SpanDo_keep 2 (ref_SpanDo_L2 nf G0)) (ref_SpanDo_m2 op a b x a3 b3 t62 out2 y)) a3 b3 t62 out2 y := by kernel_rfl
theorem ref_SpanDo_e2 (nf : Nat) (G0 : St → Option ((Int × Int × Unit) × Unit)) (op : Int) (a : Int × Int × Unit) (b : Int × Int × Unit) (x : Int) : ∀ (fu : Nat) (a3 : Int × Int × Unit) (b3 : Int × Int × Unit) (t62 : Int × Int × Unit) (out2 : Int × Int × Unit) (y : Int), iter fu (LC.F tab (ref_SpanDo_phi nf) (fun _ F => iter nf F) ref_SpanDo_keep 2 (ref_SpanDo_L2 nf G0)) (ref_SpanDo_m2 op a b x a3 b3 t62 out2 y) = ref_SpanDo_l2 nf op a b x (fun a2 b2 t6 out x => G0 (ref_SpanDo_m0 op a b a2 b2 t6 out x)) fu a3 b3 t62 out2 y := by
  intro fu
  induction fu with
  | zero => intros; rfl
  | succ fu ih =>
    intro a3 b3 t62 out2 y
    rw [ref_SpanDo_h2 nf G0 op a b x fu a3 b3 t62 out2 y]
    simp only [ih]
    rfl
theorem ref_SpanDo_h0 (nf : Nat)  (op : Int) (a : Int × Int × Unit) (b : Int × Int × Unit) (fu : Nat) (a2 : Int × Int × Unit) (b2 : Int × Int × Unit) (t6 : Int × Int × Unit) (out : Int × Int × Unit) (x : Int) : iter (fu + 1) (LC.F tab (ref_SpanDo_phi nf) (fun _ F => iter nf F) ref_SpanDo_keep 0 (ref_SpanDo_L0 nf )) (ref_SpanDo_m0 op a b a2 b2 t6 out x) = ref_SpanDo_b0 nf (fun _ _ _ p3 v0 v1 v2 v3 v4 => iter nf (LC.F tab (ref_SpanDo_phi nf) (fun _ F => iter nf F) ref_SpanDo_keep 2 (ref_SpanDo_L2 nf (iter fu (LC.F tab (ref_SpanDo_phi nf) (fun _ F => iter nf F) ref_SpanDo_keep 0 (ref_SpanDo_L0 nf ))))) (ref_SpanDo_m2 op a b p3 v0 v1 v2 v3 v4)) op a b  (fun a2 b2 t6 out x => iter fu (LC.F tab (ref_SpanDo_phi nf) (fun _ F => iter nf F) ref_SpanDo_keep 0 (ref_SpanDo_L0 nf )) (ref_SpanDo_m0 op a b a2 b2 t6 out x)) a2 b2 t6 out x := by kernel_rfl
theorem ref_SpanDo_e0 (nf : Nat)  (op : Int) (a : Int × Int × Unit) (b : Int × Int × Unit) : ∀ (fu : Nat) (a2 : Int × Int × Unit) (b2 : Int × Int × Unit) (t6 : Int × Int × Unit) (out : Int × Int × Unit) (x : Int), iter fu (LC.F tab (ref_SpanDo_phi nf) (fun _ F => iter nf F) ref_SpanDo_keep 0 (ref_SpanDo_L0 nf )) (ref_SpanDo_m0 op a b a2 b2 t6 out x) = ref_SpanDo_l0 nf op a b  fu a2 b2 t6 out x := by
  intro fu
  induction fu with
  | zero => intros; rfl
  | succ fu ih =>
    intro a2 b2 t6 out x
    rw [ref_SpanDo_h0 nf  op a b fu a2 b2 t6 out x]
    simp only [ih, ref_SpanDo_e2]
    rfl
theorem ref_SpanDo_eq (nf : Nat) (op : Int) (a : Int × Int × Unit) (b : Int × Int × Unit) : runF tab (ref_SpanDo_phi nf) ref_SpanDo_keep nf [PT.val (Ty.int IntKind.i64) (Md.bor true false), PT.val ((Ty.int IntKind.i64).pair ((Ty.int IntKind.i64).pair Ty.unit)) (Md.bor true false), PT.val ((Ty.int IntKind.i64).pair ((Ty.int IntKind.i64).pair Ty.unit)) (Md.bor true false)] [((Ty.int IntKind.i64).pair ((Ty.int IntKind.i64).pair Ty.unit), Md.bor false true)] Try.f6.results.toList (codeOf Try.f6) ⟨op, a, b, ()⟩ = ref_SpanDo_f nf op a b := by
  have h : runF tab (ref_SpanDo_phi nf) ref_SpanDo_keep nf [PT.val (Ty.int IntKind.i64) (Md.bor true false), PT.val ((Ty.int IntKind.i64).pair ((Ty.int IntKind.i64).pair Ty.unit)) (Md.bor true false), PT.val ((Ty.int IntKind.i64).pair ((Ty.int IntKind.i64).pair Ty.unit)) (Md.bor true false)] [((Ty.int IntKind.i64).pair ((Ty.int IntKind.i64).pair Ty.unit), Md.bor false true)] Try.f6.results.toList (codeOf Try.f6) ⟨op, a, b, ()⟩ = ref_SpanDo_p nf (fun p0 p1 p2 v0 v1 v2 v3 v4 => iter nf (LC.F tab (ref_SpanDo_phi nf) (fun _ F => iter nf F) ref_SpanDo_keep 0 (ref_SpanDo_L0 nf)) (ref_SpanDo_m0 p0 p1 p2 v0 v1 v2 v3 v4)) op a b := by kernel_rfl
  rw [h]
  simp only [ref_SpanDo_e0]
  rfl
def ref_SpanDo_F (nf : Nat) (x : denPs [.val (.int .i64) (.bor true false), .val (.pair (.int .i64) (.pair (.int .i64) (.unit))) (.bor true false), .val (.pair (.int .i64) (.pair (.int .i64) (.unit))) (.bor true false)]) : Option (denL [(.pair (.int .i64) (.pair (.int .i64) (.unit)), .bor false true)]) := ref_SpanDo_f nf x.1 x.2.1 x.2.2.1
def ref_SpanDo_C (nf : Nat) : Contract := ⟨[.val (.int .i64) (.bor true false), .val (.pair (.int .i64) (.pair (.int .i64) (.unit))) (.bor true false), .val (.pair (.int .i64) (.pair (.int .i64) (.unit))) (.bor true false)], [(.pair (.int .i64) (.pair (.int .i64) (.unit)), .bor false true)], ref_SpanDo_F nf⟩
theorem ref_SpanDo_ok : FnOK Try.prog 6 := ⟨Try.f6, codeOf Try.f6, Try.func6, by kernel_rfl, by kernel_rfl⟩
theorem ref_SpanDo_holds (nf : Nat) : Contract.Holds Try.prog 6 (ref_SpanDo_C nf) :=
  fn_holds (Φ := ref_SpanDo_phi nf) (keep := ref_SpanDo_keep) (n := nf) ⟨tabs.1, tabs.2, (ctx_cons ref_Op_ok (ref_Op_holds nf) ctx_nil), mixed⟩ (fn := Try.f6) ⟨Try.func6, by kernel_rfl, by kernel_rfl, by kernel_rfl⟩ (fun x => ref_SpanDo_eq nf x.1 x.2.1 x.2.2.1)

/-! codemason codemasonlaw.SpanDoes -/
def law_SpanDoes_phi (nf : Nat) : Nat → Option Contract := lookC [(4, span_Do_C nf), (5, ref_IsSpan_C nf), (6, ref_SpanDo_C nf)]
def law_SpanDoes_keep : Nat → List Nat := lookK []
def law_SpanDoes_p (nf : Nat)  (op : Int) (a : Int × Int × Unit) (b : Int × Int × Unit) : Option (Bool × Unit) :=
  Option.bind (span_Do_f nf op a b) fun r =>
  bif decide (op < 3) then
    bif r.snd.fst == 6 then
      some ((r.fst.fst == 0 && (r.fst.snd.fst == 0 && true), ()))
    else
      some ((false, ()))
  else
    bif decide (op > 6) then
      bif r.snd.fst == 6 then
        some ((r.fst.fst == 0 && (r.fst.snd.fst == 0 && true), ()))
      else
        some ((false, ()))
    else
      Option.bind (ref_IsSpan_f nf a) fun r2 =>
      bif !r2.fst then
        bif r.snd.fst == 4 then
          some ((r.fst.fst == 0 && (r.fst.snd.fst == 0 && true), ()))
        else
          some ((false, ()))
      else
        Option.bind (ref_IsSpan_f nf b) fun r3 =>
        bif !r3.fst then
          bif r.snd.fst == 4 then
            some ((r.fst.fst == 0 && (r.fst.snd.fst == 0 && true), ()))
          else
            some ((false, ()))
        else
          bif r.snd.fst == 0 then
            Option.bind (ref_SpanDo_f nf op a b) fun r4 =>
            some ((r.fst.fst == r4.fst.fst && (r.fst.snd.fst == r4.fst.snd.fst && true), ()))
          else
            some ((false, ()))
def law_SpanDoes_f (nf : Nat) (op : Int) (a : Int × Int × Unit) (b : Int × Int × Unit) : Option (Bool × Unit) := law_SpanDoes_p nf  op a b
theorem law_SpanDoes_eq (nf : Nat) (op : Int) (a : Int × Int × Unit) (b : Int × Int × Unit) : runF tab (law_SpanDoes_phi nf) law_SpanDoes_keep nf [PT.val (Ty.int IntKind.i64) (Md.bor true false), PT.val ((Ty.int IntKind.i64).pair ((Ty.int IntKind.i64).pair Ty.unit)) (Md.bor true false), PT.val ((Ty.int IntKind.i64).pair ((Ty.int IntKind.i64).pair Ty.unit)) (Md.bor true false)] [(Ty.bool, Md.bor false true)] Try.f3.results.toList (codeOf Try.f3) ⟨op, a, b, ()⟩ = law_SpanDoes_f nf op a b := by
  have h : runF tab (law_SpanDoes_phi nf) law_SpanDoes_keep nf [PT.val (Ty.int IntKind.i64) (Md.bor true false), PT.val ((Ty.int IntKind.i64).pair ((Ty.int IntKind.i64).pair Ty.unit)) (Md.bor true false), PT.val ((Ty.int IntKind.i64).pair ((Ty.int IntKind.i64).pair Ty.unit)) (Md.bor true false)] [(Ty.bool, Md.bor false true)] Try.f3.results.toList (codeOf Try.f3) ⟨op, a, b, ()⟩ = law_SpanDoes_p nf  op a b := by kernel_rfl
  exact h
def law_SpanDoes_F (nf : Nat) (x : denPs [.val (.int .i64) (.bor true false), .val (.pair (.int .i64) (.pair (.int .i64) (.unit))) (.bor true false), .val (.pair (.int .i64) (.pair (.int .i64) (.unit))) (.bor true false)]) : Option (denL [(.bool, .bor false true)]) := law_SpanDoes_f nf x.1 x.2.1 x.2.2.1
def law_SpanDoes_C (nf : Nat) : Contract := ⟨[.val (.int .i64) (.bor true false), .val (.pair (.int .i64) (.pair (.int .i64) (.unit))) (.bor true false), .val (.pair (.int .i64) (.pair (.int .i64) (.unit))) (.bor true false)], [(.bool, .bor false true)], law_SpanDoes_F nf⟩
theorem law_SpanDoes_ok : FnOK Try.prog 3 := ⟨Try.f3, codeOf Try.f3, Try.func3, by kernel_rfl, by kernel_rfl⟩
theorem law_SpanDoes_holds (nf : Nat) : Contract.Holds Try.prog 3 (law_SpanDoes_C nf) :=
  fn_holds (Φ := law_SpanDoes_phi nf) (keep := law_SpanDoes_keep) (n := nf) ⟨tabs.1, tabs.2, (ctx_cons span_Do_ok (span_Do_holds nf) (ctx_cons ref_IsSpan_ok (ref_IsSpan_holds nf) (ctx_cons ref_SpanDo_ok (ref_SpanDo_holds nf) ctx_nil))), mixed⟩ (fn := Try.f3) ⟨Try.func3, by kernel_rfl, by kernel_rfl, by kernel_rfl⟩ (fun x => law_SpanDoes_eq nf x.1 x.2.1 x.2.2.1)
end Go.Proofs.Ytdfekggdnkgadaa.S
