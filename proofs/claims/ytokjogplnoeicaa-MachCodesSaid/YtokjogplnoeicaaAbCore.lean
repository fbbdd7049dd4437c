/- An abstract interpreter over the model's own code: slots hold abstract values (numbers, booleans, lists, owned slices and boxes, aliases). Definitions alone. -/
import Derived.WalkKit
import Derived.Below
import Derived.KernelRfl
namespace Go.Ab

/-- Types of abstract values. A struct or an array of fixed length is `pair a (pair b .. unit)`. `bx e`: a pointer, nil or to a block of its own. -/
inductive Ty where
 | int (k : IntKind) | bool | sl (e : Ty) | pair (a b : Ty) | unit | mp (k e : Ty) | bx (e : Ty)
 deriving DecidableEq

@[reducible] def den : Ty → Type
 | .int _ => Int
 | .bool => Bool
 | .sl e => List (den e)
 | .pair a b => den a × den b
 | .unit => Unit
 | .mp k e => List (den k × den e)
 | .bx e => Option (den e)

def dflt : (t : Ty) → den t
 | .int _ => (0 : Int)
 | .bool => false
 | .sl _ => []
 | .pair a b => (dflt a, dflt b)
 | .unit => ()
 | .mp _ _ => []
 | .bx _ => none

def isMp : Ty → Bool
 | .mp _ _ => true
 | _ => false
/-- Is a value of this type one cell? -/
def isCell : Ty → Bool
 | .pair _ _ | .unit => false
 | _ => true
/-- Cells that a value takes. -/
def sz : Ty → Nat
 | .pair _ b => 1 + sz b
 | .unit => 0
 | _ => 1

/-- Modes: borrowed or shared memory (`lent`: of the caller's own, must not be kept), or owned by the slot. `nz`: a slice that is empty only if it is nil; a map that is not nil. -/
inductive Md where
 | bor (lent nz : Bool)
 | own (nz : Bool) (e : Md)
 | pair (a b : Md)
 deriving DecidableEq

def Md.hasOwn : Md → Bool
 | .bor _ _ => false
 | .own _ _ => true
 | .pair a b => a.hasOwn || b.hasOwn
/-- of a slice's elements, a map's entries -/
def Md.el : Md → Md
 | .bor l _ => .bor l false
 | .own _ e => e
 | .pair _ _ => .bor false false
def Md.fst : Md → Md
 | .bor l _ => .bor l false
 | .pair a _ => a
 | .own _ _ => .bor false false
def Md.snd : Md → Md
 | .bor l _ => .bor l false
 | .pair _ b => b
 | .own _ _ => .bor false false
def Md.isOwn : Md → Bool | .own _ _ => true | _ => false
def Md.lent? : Md → Bool | .bor l _ => l | _ => false
def Md.nz? : Md → Bool | .bor _ nz | .own nz _ => nz | .pair _ _ => false
/-- where there is something in it -/
def Md.nzOn : Md → Md | .own _ e => .own true e | m => m

/-- nothing of the caller's own -/
def noLent : Md → Bool
 | .bor l _ => !l
 | .own _ e => noLent e
 | .pair a b => noLent a && noLent b

def bimp (a b : Bool) : Bool := match a with | true => b | false => true

/-- the mode of a zero value: nil slices are owned -/
def topM : Ty → Md
 | .sl e => .own true (topM e)
 | .mp _ _ => .own false (.bor false false)
 | .bx e => .own false (topM e)
 | .pair a b => .pair (topM a) (topM b)
 | _ => .bor false true

/-- the mode of a field -/
def fldMd : Md → Nat → Md
 | m, 0 => m.fst
 | m, n + 1 => fldMd m.snd n

/-- of a slice or a map: may what has mode m pass as one of this mode? -/
def Md.fits (m' m : Md) : Bool := match m' with
 | .own _ _ => m.isOwn
 | .bor l _ => m.isOwn || bimp m.lent? l
 | .pair _ _ => false

/-- May a value of this type and the one mode pass as one of the other mode? (What is owned passes as shared: it is frozen then.) k: of a struct the next field's number. -/
def leM : Ty → Nat → Md → Md → Bool
 | .sl e, _, m, m' => m'.fits m && bimp m'.nz? m.nz? && leM e 0 m.el m'.el
 | .mp _ _, _, m, m' => m'.fits m && bimp m'.nz? m.nz?
 | .bx e, _, m, m' => m'.fits m && leM e 0 m.el m'.el
 | .pair a b, k, m, m' => leM a 0 (fldMd m k) (fldMd m' k) && leM b (k + 1) m m'
 | _, _, _, _ => true

inductive Stp where
 | dr | fld (n : Nat) | el (i : Nat)
 deriving DecidableEq

/-- Abstract values of slots. -/
inductive AV where
 | dead
 | undefd
 | nilS
 | nilP
 | v (t : Ty) (m : Md) (x : den t)
 | ow (n : Nat) (t : Ty) (m : Md) (x : den t)
 | box (n u : Nat) (t : Ty) (m : Md) (x : den t)
 | pl (s n : Nat) (p : List Stp)
 | al (s n : Nat) (p : List Stp)
 | sub (s n : Nat) (p : List Stp) (lo len : Nat) (capped : Bool)
 | rop (t : Ty) (m : Md) (x : den t)
 | tup (l : List AV)
 | clo (f : Nat) (caps : List AV)
 | app (s n : Nat) (p : List Stp) (e : Ty) (nz : Bool) (me : Md) (zs : List (den e))
 | ent (s n : Nat) (p : List Stp) (k : Ty) (y : den k) (tup : Bool)
 | it (s n : Nat) (p : List Stp) (k e : Ty) (l : List (den k × den e)) (z : Option (den k × den e))
 | cel (s n : Nat)

def AV.force {R : Type} (a : AV) (k : AV → R) : R := match a with
 | .dead => k .dead | .undefd => k .undefd | .nilS => k .nilS | .nilP => k .nilP
 | .v t m x => k (.v t m x) | .ow n t m x => k (.ow n t m x) | .box n u t m x => k (.box n u t m x)
 | .pl s n p => k (.pl s n p) | .al s n p => k (.al s n p) | .sub s n p lo l c => k (.sub s n p lo l c)
 | .rop t m x => k (.rop t m x) | .tup l => k (.tup l) | .clo f c => k (.clo f c)
 | .app s n p e nz me zs => k (.app s n p e nz me zs) | .ent s n p ty y b => k (.ent s n p ty y b)
 | .it s n p ty e l z => k (.it s n p ty e l z)
 | .cel s n => k (.cel s n)
theorem AV.force_eq {R : Type} (a : AV) (k : AV → R) : a.force k = k a := by cases a <;> rfl

/-- A state: a counter for stamps; the slots, the newest first. -/
structure St where
 c : Nat
 l : List (Nat × AV)

def look : List (Nat × AV) → Nat → AV
 | [], _ => .dead
 | (d, v) :: r, t => match Nat.beq d t with | true => v | false => look r t
def St.get (st : St) (t : Nat) : AV := look st.l t
def isApp : AV → Bool
 | .app _ _ _ _ _ _ _ | .ent _ _ _ _ _ _ => true
 | _ => false
/-- does it hang on what slot s has just now? -/
def appTo (s : Nat) : AV → Bool
 | .app _ _ _ _ _ _ _ | .ent _ _ _ _ _ _ => true
 | .it s' _ _ _ _ _ _ => Nat.beq s s'
 | _ => false
/-- no slot holds the slice of an append that is still to be stored, or goes over a map of slot s -/
def noApp (st : St) (s : Nat) : Bool := st.l.all fun x => match appTo s x.2 with | true => !appTo s (look st.l x.1) | false => true
/-- does an operand hold such a one? -/
def appOp (st : St) : Operand → Bool
 | .tmp t => isApp (st.get t)
 | _ => false
def St.set (st : St) (d : Nat) (v : AV) : St := ⟨st.c, (d, v) :: st.l⟩
def St.tick (st : St) (c : Nat) : St := ⟨c + 2, st.l⟩
def St.put (st : St) (d : Option Nat) (v : AV) : St := match d with | some d => st.set d v | none => st

@[reducible] def denL : List (Ty × Md) → Type
 | [] => Unit
 | t :: r => den t.1 × denL r
/-- A region in which a function calls itself by a variable that it shares: the slot of the function's value; what is done ahead of the call; the slots of the arguments (numbers); the slot of what comes back; the boxes that it shares, with what they have, and what is only read; what it does to the boxes; the region's text. -/
structure SelfC where
 d1 : Nat
 mid : List Oper
 args : List Nat
 d3 : Nat
 bxs : List (Nat × Ty × Md)
 ros : List (Nat × Ty × Md)
 fn : List Int → denL (bxs.map (·.2)) → denL (ros.map (·.2)) → Option (denL (bxs.map (·.2)))
 os : Array Oper

/-- the two functions of a walk backwards: the one that makes it, and the one that goes; the slice's type -/
inductive Bk where
 | mk (g S : Nat)
 | gen (S : Nat)

/-- What the tables say of the program's types: the type; the mode of what is made of it. -/
structure Tab where
 ty : Nat → Option Ty
 md : Nat → Md
 arr : Nat → Bool
 str : Nat → Bool
 sc : Nat → Option SelfC
 bk : Nat → Option Bk

/-- the bytes of a text -/
def bytesOf (s : ByteArray) : List Int := s.data.toList.map fun b => ((b.toNat : Nat) : Int)

/-- a value, its type, its mode -/
structure TV where
 t : Ty
 m : Md
 x : den t

/-- k: the number of the first field that is left -/
def fieldK (m : Md) (n : Nat) : (t : Ty) → den t → Nat → Option TV
 | .pair a b, x, k => match Nat.beq k n with
  | true => some ⟨a, fldMd m n, x.1⟩
  | false => fieldK m n b x.2 (k + 1)
 | _, _, _ => none
def fieldOf (t : Ty) (m : Md) (x : den t) (n : Nat) : Option TV := fieldK m n t x 0

/-- the part at a path -/
def walkP : List Stp → (t : Ty) → Md → den t → Option TV
 | [], t, m, x => some ⟨t, m, x⟩
 | .fld n :: p, t, m, x => match fieldOf t m x n with
  | some ⟨t', m', y⟩ => walkP p t' m' y
  | none => none
 | .el i :: p, .sl e, m, x => walkP p e m.el (List.getD x i (dflt e))
 | _ :: _, _, _, _ => none

def updF (n : Nat) (f : (t' : Ty) → den t' → Option (den t')) : (t : Ty) → den t → Nat → Option (den t)
 | .pair a b, x, k => match Nat.beq k n with
  | true => match f a x.1 with | some y => some (y, x.2) | none => none
  | false => match updF n f b x.2 (k + 1) with | some y => some (x.1, y) | none => none
 | _, _, _ => none

/-- with another part at a path -/
def updP : List Stp → (t : Ty) → den t → (t' : Ty) → den t' → Option (den t)
 | [], t, _, t', y => if h : t' = t then some (h ▸ y) else none
 | .fld n :: p, t, x, t', y => updF n (fun t1 x1 => updP p t1 x1 t' y) t x 0
 | .el i :: p, .sl e, x, t', y => match updP p e (List.getD x i (dflt e)) t' y with
  | some z => some (List.set x i z)
  | none => none
 | _ :: _, _, _, _, _ => none

def eqP : List Stp → List Stp → Bool
 | [], [] => true
 | .dr :: p, .dr :: q => eqP p q
 | .fld i :: p, .fld j :: q => Nat.beq i j && eqP p q
 | .el i :: p, .el j :: q => Nat.beq i j && eqP p q
 | _, _ => false
/-- a path through fields of a box alone -/
def shallow : List Stp → Bool
 | [] => true
 | .fld _ :: p => shallow p
 | _ :: _ => false
def shallowD : List Stp → Bool
 | .dr :: p => shallow p
 | _ => false

/-- The content of an owner: its type, mode, value; is it a box? -/
structure Own where
 box : Bool
 t : Ty
 m : Md
 x : den t

/-- by the stamp of its form -/
def own? (a : AV) (n : Nat) : Option Own := match a with
 | .ow n' t m x => match Nat.beq n n' with | true => some ⟨false, t, m, x⟩ | false => none
 | .box _ n' t m x => match Nat.beq n n' with | true => some ⟨true, t, m, x⟩ | false => none
 | _ => none
/-- by the stamp of its form, or a box's own stamp -/
def ownP? (a : AV) (n : Nat) (p : List Stp) : Option Own := match a with
 | .ow n' t m x => match Nat.beq n n' with | true => some ⟨false, t, m, x⟩ | false => none
 | .box n1 n2 t m x => match (Nat.beq n n1 && shallowD p) || Nat.beq n n2 with | true => some ⟨true, t, m, x⟩ | false => none
 | _ => none

/-- the part at a path of an owner: a box's content lies behind `dr` -/
def Own.at (o : Own) : List Stp → Option TV
 | .dr :: p => match o.box with | true => walkP p o.t o.m o.x | false => none
 | p => match o.box with | true => none | false => walkP p o.t o.m o.x

/-- the owned slice at a path -/
def Own.sl {R : Type} (o : Own) (p : List Stp) (k : (e : Ty) → Md → List (den e) → Option R) : Option R := match o.at p with
 | some ⟨.sl e, m, x⟩ => match m.isOwn with | true => k e m x | false => none
 | _ => none

/-- the owned map at a path -/
def Own.mp {R : Type} (o : Own) (p : List Stp) (f : (k e : Ty) → Md → List (den k × den e) → Option R) : Option R := match o.at p with
 | some ⟨.mp k e, m, x⟩ => match m.isOwn with | true => f k e m x | false => none
 | _ => none

def Own.upd (o : Own) (p : List Stp) (t' : Ty) (y : den t') : Option Own := match p with
 | .dr :: p => match o.box with
  | true => match updP p o.t o.x t' y with | some x => some { o with x := x } | none => none
  | false => none
 | p => match o.box with
  | true => none
  | false => match updP p o.t o.x t' y with | some x => some { o with x := x } | none => none

/-- an owner with other content; `c`: a new stamp of its form, if that has changed -/
def newAV (a : AV) (o : Own) (c : Option Nat) : AV := match a, c with
 | .ow n _ _ _, none => .ow n o.t o.m o.x
 | .ow _ _ _ _, some c => .ow c o.t o.m o.x
 | .box n u _ _ _, none => .box n u o.t o.m o.x
 | .box n _ _ _ _, some c => .box n c o.t o.m o.x
 | _, _ => .dead

section D
variable {R : Type} (T : Tab)

/-- an operand's value; what is read out of a slot is a copy: of an owner an alias -/
def opd (st : St) (x : Operand) (k : AV → Option R) : Option R := match x with
 | .tmp t => match st.get t with
  | .ow n ty m _ => match ty, m.isOwn with
   | .sl _, true => k (.al t n [])
   | .mp _ _, true => match m.nz? with | true => k (.al t n []) | false => none
   | _, _ => none
  | .box n _ _ _ _ => k (.pl t n [.dr])
  | .tup _ => none
  | .app _ _ _ _ _ _ _ => none
  | .ent _ _ _ _ _ _ => none
  | .it _ _ _ _ _ _ _ => none
  | a => a.force k
 | .const (.int kd n) => k (.v (.int kd) (.bor false true) n)
 | .const (.bool b) => k (.v .bool (.bor false true) b)
 | .const (.slice none 0 0) => k .nilS
 | .const (.pointer none) => k .nilP
 | .func f => k (.clo f [])
 | _ => none

def asInt (a : AV) (k : IntKind → Int → Option R) : Option R := match a with
 | .v (.int kd) _ n => k kd n
 | _ => none
def asBool (a : AV) (k : Bool → Option R) : Option R := match a with
 | .v .bool _ b => k b
 | _ => none

/-- the map that a value is, to be read -/
def asMap (st : St) (a : AV) (f : (k e : Ty) → List (den k × den e) → Option R) : Option R := match a with
 | .v (.mp k e) _ x => f k e x
 | .al s n p => match own? (st.get s) n with
  | some o => o.mp p fun k e m x => match m.nz? with | true => f k e x | false => none
  | none => none
 | _ => none

/-- the slice that a value is, to be read: type of elements, mode of elements, the list -/
def asList (st : St) (a : AV) (k : (e : Ty) → Md → List (den e) → Option R) : Option R := match a with
 | .v (.sl e) m x => k e m.el x
 | .al s n p => match own? (st.get s) n with
  | some o => o.sl p fun e m x => k e m.el x
  | none => none
 | .sub s n p lo len _ => match own? (st.get s) n with
  | some o => o.sl p fun e m x => k e m.el ((x.drop lo).take len)
  | none => none
 | _ => none

/-- A value as one of type t to be read while a call lasts: what is owned is lent. -/
def asRead (st : St) (a : AV) (t : Ty) (nz : Bool) (k : den t → Option R) : Option R := match a with
 | .v t' m' x => if h : t' = t then (match leM t 0 m' (.bor true nz) with | true => k (h ▸ x) | false => none) else none
 | .nilS => match t with
  | .sl _ => k []
  | _ => none
 | .al s n p => match own? (st.get s) n with
  | some o => match isMp t with
   | true => o.mp p fun k1 e1 m x => if h : .mp k1 e1 = t then (match m.nz? with | true => k (h ▸ (show den (.mp k1 e1) from x)) | false => none) else none
   | false => o.sl p fun e m x => if h : .sl e = t then (match leM t 0 m (.bor true nz) with | true => k (h ▸ x) | false => none) else none
  | none => none
 | .sub s n p lo len _ => match own? (st.get s) n, nz with
  | some o, false => o.sl p fun e _ x => if h : .sl e = t then k (h ▸ ((x.drop lo).take len)) else none
  | _, _ => none
 | _ => none

/-- A value as one of type t to be kept: an owner is taken, or a part of one: its slot is dead then. -/
def take (st : St) (a : AV) (t : Ty) (m : Md) (k : den t → St → Option R) : Option R := match a with
 | .v t' m' x => if h : t' = t then (match leM t 0 m' m with | true => k (h ▸ x) st | false => none) else none
 | .nilS => match t with
  | .sl _ => k [] st
  | _ => none
 | .al s n p => match own? (st.get s) n with
  | some o => match isMp t with
   | true => o.mp p fun k1 e1 m' x => if h : .mp k1 e1 = t then (match m'.nz? && leM t 0 m' m with | true => k (h ▸ (show den (.mp k1 e1) from x)) (st.set s .dead) | false => none) else none
   | false => o.sl p fun e m' x => if h : .sl e = t then (match leM t 0 m' m with
    | true => k (h ▸ x) (st.set s .dead)
    | false => match leM t 0 m'.nzOn m with
     | true => bif !List.isEmpty x then k (h ▸ x) (st.set s .dead) else none
     | false => none) else none
  | none => none
 | .sub s n p lo len _ => match own? (st.get s) n, m.nz? with
  | some o, false => o.sl p fun e m' x => if h : .sl e = t then (match leM t 0 m' m && !m'.el.hasOwn with
    | true => k (h ▸ ((x.drop lo).take len)) (st.set s .dead)
    | false => none) else none
  | _, _ => none
 | .nilP => match t with
  | .bx _ => k none st
  | _ => none
 | .pl s n p => match st.get s with
  | .box n1 _ t' m' x => match Nat.beq n n1 && eqP p [.dr] with
   | true => if h : .bx t' = t then (match leM t 0 (.own false m') m with | true => k (h ▸ (show den (.bx t') from some x)) (st.set s .dead) | false => none) else none
   | false => none
  | _ => none
 | _ => none

/-- a new value of a slot, owned or not by its mode -/
def made (st : St) (t : Ty) (m : Md) (x : den t) (k : AV → St → Option R) : Option R :=
 match m.hasOwn with
 | true => k (.ow st.c t m x) st
 | false => k (.v t m x) st

def cmpI (op : BinOp) (a b : Int) : Option Bool := match op with
 | .eql => some (a == b) | .neq => some (a != b) | .lss => some (decide (a < b)) | .leq => some (decide (a ≤ b))
 | .gtr => some (decide (a > b)) | .geq => some (decide (a ≥ b)) | _ => none

def bitsI (op : BinOp) (k : IntKind) (x y : Int) : Option Int := match op with
 | .and => some (k.wrap (BitVec.ofInt k.bits x &&& BitVec.ofInt k.bits y).toNat)
 | .or => some (k.wrap (BitVec.ofInt k.bits x ||| BitVec.ofInt k.bits y).toNat)
 | .xor => some (k.wrap (BitVec.ofInt k.bits x ^^^ BitVec.ofInt k.bits y).toNat)
 | .andNot => some (k.wrap (BitVec.ofInt k.bits x &&& ~~~ BitVec.ofInt k.bits y).toNat)
 | _ => none

def shlI (k : IntKind) (x y : Int) : Int := k.wrap (x * 2 ^ (min y.toNat k.bits))
def shrI (k : IntKind) (x y : Int) : Int := x.fdiv (2 ^ (min y.toNat k.bits))

/-- equality of two values of a type without slices and maps -/
def beqD : (t : Ty) → den t → den t → Option Bool
 | .int _, (x : Int), (y : Int) => some (x == y)
 | .bool, (x : Bool), (y : Bool) => some (x == y)
 | .unit, _, _ => some true
 | .pair a b, x, y => match beqD a x.1 y.1, beqD b x.2 y.2 with
  | some p, some q => some (p && q)
  | _, _ => none
 | _, _, _ => none

def guardB (c : Bool) (k : Option R) : Option R := match c with | true => k | false => none
/-- the same, of what is known ahead of the run -/
def guardK (c : Bool) (k : Option R) : Option R := match c with | true => k | false => none

def eqK (op : BinOp) (c : Bool) (k : AV → Option R) : Option R := match op with
 | .eql => k (.v .bool (.bor false true) c)
 | .neq => k (.v .bool (.bor false true) (!c))
 | _ => none

def binD (ty : Option Ty) (op : BinOp) (x y : AV) (k : AV → Option R) : Option R := match x, y with
 | .v (.int kx) _ a, .v (.int ky) _ b => match op with
  | .shl => guardB (decide (0 ≤ b)) (k (.v (.int kx) (.bor false true) (shlI kx a b)))
  | .shr => guardB (decide (0 ≤ b)) (k (.v (.int kx) (.bor false true) (shrI kx a b)))
  | op => match decide (kx = ky) with
   | false => none
   | true => match op with
    | .add => k (.v (.int kx) (.bor false true) (kx.wrap (a + b)))
    | .sub => k (.v (.int kx) (.bor false true) (kx.wrap (a - b)))
    | .mul => k (.v (.int kx) (.bor false true) (kx.wrap (a * b)))
    | .quo => guardB (b != 0) (k (.v (.int kx) (.bor false true) (kx.wrap (a.tdiv b))))
    | .rem => guardB (b != 0) (k (.v (.int kx) (.bor false true) (a.tmod b)))
    | op => match cmpI op a b with
     | some c => k (.v .bool (.bor false true) c)
     | none => match bitsI op kx a b with
      | some c => k (.v (.int kx) (.bor false true) c)
      | none => none
 | .v .bool _ a, .v .bool _ b => match ty, op with
  | some .bool, .eql => k (.v .bool (.bor false true) (a == b))
  | some .bool, .neq => k (.v .bool (.bor false true) (a != b))
  | _, _ => none
 | .v t _ a, .v t' _ b => if h : t' = t then (match decide (ty = some t) with
  | true => (match beqD t a (h ▸ b) with
   | some c => eqK op c k
   | none => none)
  | false => none) else none
 | _, _ => none

/-- equality of keys -/
def eqD : (t : Ty) → den t → den t → Bool
 | .int _, (x : Int), (y : Int) => x == y
 | .bool, (x : Bool), (y : Bool) => x == y
 | .unit, _, _ => true
 | .pair a b, x, y => eqD a x.1 y.1 && eqD b x.2 y.2
 | _, _, _ => false
/-- what a map has at a key -/
def getM (k e : Ty) : List (den k × den e) → den k → Option (den e)
 | [], _ => none
 | z :: r, y => match eqD k z.1 y with | true => some z.2 | false => getM k e r y
/-- a map with another entry -/
def insM (k e : Ty) : List (den k × den e) → den k → den e → List (den k × den e)
 | [], y, v => [(y, v)]
 | z :: r, y, v => match eqD k z.1 y with | true => (z.1, v) :: r | false => z :: insM k e r y v
/-- a map without an entry -/
def delM (k e : Ty) : List (den k × den e) → den k → List (den k × den e)
 | [], _ => []
 | z :: r, y => match eqD k z.1 y with | true => r | false => z :: delM k e r y

def inb (i : Int) (n : Nat) : Bool := decide (0 ≤ i) && decide (i < (n : Int))
/-- the greatest length of a list that the code makes -/
def lim : Nat := 4294967296

/-- the parts of a literal, in order -/
def partsS (e : Ty) (m : Md) : Nat → List (Nat × Operand) → St → (List (den e) → St → Option R) → Option R
 | _, [], st, k => k [] st
 | i, (j, x) :: r, st, k => match Nat.beq i j with
  | true => opd st x fun a => take st a e m fun y st => partsS e m (i + 1) r st fun ys st => k (y :: ys) st
  | false => none

end D

/-- no map among its cells -/
def noMp : Ty → Bool
 | .mp _ _ => false
 | .pair a b => noMp a && noMp b
 | _ => true
/-- no slice and no map in it -/
def flat : Ty → Bool
 | .int _ | .bool | .unit => true
 | .pair a b => flat a && flat b
 | .sl _ | .mp _ _ | .bx _ => false

/-- What a function asks of a parameter: a value (lent, or kept: taken from the caller), a pointer to what is only read, a function value of which the text is known, a pointer to a block that is handed over. -/
inductive PT where
 | val (t : Ty) (m : Md)
 | ptr (t : Ty) (m : Md)
 | clo (f : Nat) (caps : List (Ty × Md))
 | box (t : Ty) (m : Md)

@[reducible] def denPs : List PT → Type
 | [] => Unit
 | .val t _ :: r | .ptr t _ :: r | .box t _ :: r => den t × denPs r
 | .clo _ caps :: r => denL caps × denPs r
/-- A function's contract: parameters, results, and the plain function that it computes (none: nothing is promised). io: parameters that are handed back; what they have then are the first results. -/
structure Contract where
 ps : List PT
 rs : List (Ty × Md)
 fn : denPs ps → Option (denL rs)
 io : List Nat := []

section D2
variable {R : Type} (T : Tab) (Φ : Nat → Option Contract)

def sameTy (a b : Ty) (k : Option R) : Option R := match decide (a = b) with | true => k | false => none

/-- the content behind a pointer that is only read -/
def asPtr (st : St) (a : AV) (t : Ty) (m : Md) (k : den t → Option R) : Option R := match a with
 | .pl s n p => match ownP? (st.get s) n p with
  | some o => match o.at p with
   | some ⟨t', m', x⟩ => if h : t' = t then (match leM t 0 m' m && Nat.blt 0 (sz t) with | true => k (h ▸ x) | false => none) else none
   | none => none
  | none => none
 | .rop t' m' x => if h : t' = t then (match leM t 0 m' m with | true => k (h ▸ x) | false => none) else none
 | _ => none

def capsD (st : St) : (caps : List (Ty × Md)) → List AV → (denL caps → Option R) → Option R
 | [], [], k => k ()
 | c :: r, a :: l, k => match c.2 with
  | .bor true _ => asPtr st a c.1 c.2 fun x => capsD st r l fun xs => k (x, xs)
  | _ => none
 | _, _, _ => none

def notClo : AV → Bool
 | .clo _ _ | .cel _ _ => false
 | _ => true
def isFree : AV → Bool
 | .v _ _ _ | .nilS | .rop _ _ _ => true
 | _ => false
def lentOnly : List PT → Bool
 | [] => true
 | .val _ m :: r => (match m with | .bor true _ => true | _ => false) && lentOnly r
 | .ptr _ _ :: r => lentOnly r
 | .clo _ _ :: r => lentOnly r
 | .box _ _ :: _ => false

/-- the arguments of a call that hands nothing over -/
def argsL (st : St) : (ps : List PT) → List AV → (denPs ps → Option R) → Option R
 | [], [], k => k ()
 | .val t m :: r, a :: l, k => match m with
  | .bor true nz => asRead st a t nz fun x => argsL st r l fun xs => k (x, xs)
  | _ => none
 | .ptr t m :: r, a :: l, k => match m with
  | .bor true _ => asPtr st a t m fun x => argsL st r l fun xs => k (x, xs)
  | _ => none
 | .clo f caps :: r, a :: l, k => match a with
  | .clo f' cs => match Nat.beq f f' with
   | true => capsD st caps cs fun x => argsL st r l fun xs => k (x, xs)
   | false => none
  | _ => none
 | _, _, _ => none

/-- The arguments of a call that hands something over: that is taken first; the rest is read in the state behind that. -/
def argsO : (ps : List PT) → List AV → St → ((St → (denPs ps → Option R) → Option R) → St → Option R) → Option R
 | [], [], st, k => k (fun _ kk => kk ()) st
 | .val t m :: r, a :: l, st, k => match m with
  | .bor true nz => argsO r l st fun rd st => k (fun stF kk => asRead stF a t nz fun x => rd stF fun xs => kk (x, xs)) st
  | m => take st a t m fun x st => argsO r l st fun rd st => k (fun stF kk => rd stF fun xs => kk (x, xs)) st
 | .ptr t m :: r, a :: l, st, k => match m with
  | .bor true _ => argsO r l st fun rd st => k (fun stF kk => asPtr stF a t m fun x => rd stF fun xs => kk (x, xs)) st
  | _ => none
 | .clo f caps :: r, a :: l, st, k => match a with
  | .clo f' cs => match Nat.beq f f' with
   | true => argsO r l st fun rd st => k (fun stF kk => capsD stF caps cs fun x => rd stF fun xs => kk (x, xs)) st
   | false => none
  | _ => none
 | .box t m :: r, a :: l, st, k => take st a (.bx t) (.own false m) fun x st => match x with
  | some x => argsO r l st fun rd st => k (fun stF kk => rd stF fun xs => kk (x, xs)) st
  | none => none
 | _, _, _, _ => none

def comps : (rs : List (Ty × Md)) → denL rs → List AV
 | [], _ => []
 | (t, m) :: r, x => (match m.hasOwn with | true => .ow 0 t m x.1 | false => .v t m x.1) :: comps r x.2

/-- a new value of a slot: a pointer is looked through -/
def openA (c : Nat) : (t : Ty) → Md → den t → (AV → Option R) → Option R
 | .bx t, m, some y, k => match m.isOwn with | true => k (.box c (c + 1) t m.el y) | false => none
 | .bx _, _, none, k => k .nilP
 | t, m, x, k => match m.hasOwn with | true => k (.ow c t m x) | false => k (.v t m x)

def resD (st : St) (rs : List (Ty × Md)) (x : denL rs) (k : AV → St → Option R) : Option R := match rs, x with
 | [(t, m)], x => openA st.c t m x.1 fun v => k v st
 | rs, x => k (.tup (comps rs x)) st

def opds (st : St) : List Operand → (List AV → Option R) → Option R
 | [], k => k []
 | x :: r, k => opd st x fun a => opds st r fun l => k (a :: l)

/-- the results of a call that hands slots back; a box keeps its own stamp -/
def ioD (st : St) : List (Nat × Option (Nat × Ty)) → (rs : List (Ty × Md)) → denL rs → (AV → St → Option R) → Option R
 | [], rs, x, k => resD st rs x k
 | (s, none) :: ss, (t, m) :: rs, x, k => ioD (st.set s (.ow (st.c + 1) t m x.1)) ss rs x.2 k
 | (s, some (n, t0)) :: ss, (.bx t, m) :: rs, x, k => match x.1 with
  | some y => match m.isOwn && decide (t0 = t) with
   | true => ioD (st.set s (.box n (st.c + 1) t m.el y)) ss rs x.2 k
   | false => none
  | none => none
 | _, _, _, _ => none
/-- Is it an alias of the whole slice that a slot owns, or a pointer to a whole box, not of the slot d? For a box with its stamp. -/
def whole (st : St) (d : Option Nat) : AV → Option (Nat × Option (Nat × Ty))
 | .al s n [] => match st.get s with
  | .ow n' (.sl _) (.own _ _) _ => match Nat.beq n n' && !(match d with | some d => Nat.beq d s | none => false) with
   | true => some (s, none)
   | false => none
  | _ => none
 | .pl s n p => match st.get s with
  | .box n1 _ t _ _ => match Nat.beq n n1 && eqP p [.dr] && !(match d with | some d => Nat.beq d s | none => false) with
   | true => some (s, some (n, t))
   | false => none
  | _ => none
 | _ => none
def wholes (st : St) (d : Option Nat) (avs : List AV) : List Nat → Option (List (Nat × Option (Nat × Ty)))
 | [] => some []
 | p :: r => match whole st d (avs.getD p .dead), wholes st d avs r with
  | some x, some l => match l.any fun y => Nat.beq x.1 y.1 with | false => some (x :: l) | true => none
  | _, _ => none
def Contract.outs (C : Contract) : List (Ty × Md) := C.rs.drop C.io.length

def isCelA : AV → Bool
 | .cel _ _ => true
 | _ => false
/-- no slot holds a pointer to a pointer -/
def noCel (st : St) : Bool := st.l.all fun x => match isCelA x.2 with | true => !isCelA (look st.l x.1) | false => true
def callD (st : St) (C : Contract) (d : Option Nat) (avs : List AV) (k : AV → St → Option R) : Option R :=
 guardB (Nat.ble C.ps.length 1000 && C.rs.all (fun t => noLent t.2)) <| match C.io with
  | [] => match lentOnly C.ps with
   | true => argsL st C.ps avs fun xs => Option.bind (C.fn xs) fun r => resD st C.rs r k
   | false => argsO C.ps avs st fun rd st => rd st fun xs => Option.bind (C.fn xs) fun r => resD st C.rs r k
  | io => guardB (noCel st) <| match wholes st d avs io with
   | some ss => argsO C.ps avs st fun rd st => rd st fun xs => Option.bind (C.fn xs) fun r => ioD st ss C.rs r k
   | none => none

/-- the base of an append: taken; or copied where its room is known to be full; elements are not owned -/
def baseD (st : St) (a : AV) (e : Ty) (m : Md) (k : Bool → Md → Bool → List (den e) → St → Option R) : Option R := match a with
 | .nilS => match m with
  | .own nz me => match me.hasOwn with | false => k nz me false [] st | true => none
  | _ => none
 | .al s n p => match own? (st.get s) n with
  | some o => o.sl p fun e' m x => match m with
   | .own nz me => match me.hasOwn with | false => (if h : e' = e then k nz me false (h ▸ x) (st.set s .dead) else none) | true => none
   | _ => none
  | none => none
 | .sub s n p lo len false => match own? (st.get s) n with
  | some o => o.sl p fun e' m x => match m with
   | .own _ me => match me.hasOwn with | false => (if h : e' = e then k false me false (h ▸ ((x.drop lo).take len)) (st.set s .dead) else none) | true => none
   | _ => none
  | none => none
 | .sub s n p lo len true => match own? (st.get s) n with
  | some o => o.sl p fun e' _ x => match flat e with | true => (if h : e' = e then k false (.bor false false) true (h ▸ ((x.drop lo).take len)) st else none) | false => none
  | none => none
 | _ => none

/-- an append to a part of an owner: it is to be stored there at once -/
def appD (st : St) (s n : Nat) (p : List Stp) (e : Ty) (ys : List (den e)) (k : AV → St → Option R) : Option R := match own? (st.get s) n with
 | some o => o.sl p fun e' m x => match m with
  | .own nz me => match me.hasOwn with
   | false => if h : e' = e then guardK (noApp st s) (guardB (!List.isEmpty ys && Nat.ble ((List.length x) + ys.length) lim) (k (.app s n p e nz me ((h ▸ x) ++ ys)) st)) else none
   | true => none
  | _ => none
 | none => none
/-- the path of an alias of a part -/
def partOf : AV → Option (Nat × Nat × List Stp)
 | .al s n (c :: p) => some (s, n, c :: p)
 | _ => none

def appendD (st : St) (t : Ty) (m : Md) (a b : AV) (k : AV → St → Option R) : Option R := match t with
 | .sl e => match flat e with
  | true => asList st b fun e' _ ys => if h : e' = e then
    match partOf a with
    | some (s, n, p) => appD st s n p e (h ▸ ys) k
    | none => baseD st a e m fun nz me cp xs st =>
     guardB (bimp cp (!List.isEmpty ys) && Nat.ble (xs.length + ys.length) lim) (k (.ow st.c (.sl e) (.own nz me) (xs ++ (h ▸ ys))) st) else none
  | false => take st b (.sl e) (.bor false false) fun ys st =>
    baseD st a e m fun nz me cp xs st =>
     guardB (!cp && leM e 0 (.bor false false) me && Nat.ble (xs.length + List.length ys) lim) (k (.ow st.c (.sl e) (.own nz me) (xs ++ ys)) st)
 | _ => none

/-- what a copy goes to: a part of an owner, from where on, how much -/
def dstOf : AV → Option (Nat × Nat × List Stp × Nat × Option Nat)
 | .al s n p => some (s, n, p, 0, none)
 | .sub s n p lo len _ => some (s, n, p, lo, some len)
 | _ => none
def copyD (st : St) (ty : Ty) (a b : AV) (k : AV → St → Option R) : Option R := asList st b fun e' _ ys => match isCell e' && flat e' && decide (ty = .sl e') with
 | true => match dstOf a with
  | some (s, n, p, lo, len) => match own? (st.get s) n with
   | some o => guardK (!o.box) <| o.sl p fun e m xs => if h : e' = e then (match m with
    | .own _ me => match me.hasOwn with
     | false => match o.upd p (.sl e) (List.take lo xs ++ ((h ▸ List.take (Nat.min (len.getD (List.length xs)) (List.length ys)) ys : List (den e)) ++ List.drop (lo + Nat.min (len.getD (List.length xs)) (List.length ys)) xs)) with
      | some o' => (newAV (st.get s) o' (some st.c)).force fun v => k (.v (.int .i64) (.bor false true) ((Nat.min (len.getD (List.length xs)) (List.length ys) : Nat) : Int)) (st.set s v)
      | none => none
     | true => none
    | _ => none) else none
   | none => none
  | none => none
 | false => none

/-- the length of a slice or a map -/
def lenD (st : St) (ty : Ty) (a : AV) (k : Int → Option R) : Option R := match ty with
 | .sl _ => match a with
  | .nilS => k 0
  | a => asList st a fun _ _ x => k (x.length : Int)
 | .mp _ _ => asMap st a fun _ _ x => k (x.length : Int)
 | _ => none

open Classical in
/-- what two runs agree on -/
noncomputable def both (x y : Option R) : Option R := if x = y then x else none
theorem both_self (x : Option R) : both x x = x := by simp [both]
theorem both_some {x y : Option R} {r : R} (h : both x y = some r) : x = some r ∧ y = some r := by
 unfold both at h
 split at h
 ·rename_i e; exact ⟨h, e ▸ h⟩
 ·cases h
/-- is a slice nil? -/
noncomputable def nilD (st : St) (a : AV) (k : Bool → Option R) : Option R := match a with
 | .v (.sl _) m x => match m.nz? with
  | true => k (List.isEmpty x)
  | false => (match List.isEmpty x with | true => both (k true) (k false) | false => k false)
 | .al s n p => match own? (st.get s) n with
  | some o => o.sl p fun _ m x => match m.nz? with
   | true => k (List.isEmpty x)
   | false => (match List.isEmpty x with | true => both (k true) (k false) | false => k false)
  | none => none
 | .nilS => k true
 | _ => none

def bound (st : St) (x : Option Operand) (d : Nat) (k : Int → Option R) : Option R := match x with
 | none => k d
 | some x => opd st x fun a => asInt a fun _ n => k n

/-- a part of a slice: from lo to hi; its room ends at mx where told -/
def sliceD (st : St) (ty : Ty) (a : AV) (lo hi mx : Option Operand) (k : AV → St → Option R) : Option R :=
 let go (len : Nat) (k : Nat → Nat → Bool → Option R) : Option R :=
  bound st hi len fun h => bound st lo 0 fun l =>
   match mx with
   | none => guardB (decide (0 ≤ l) && decide (l ≤ h) && decide (h ≤ (len : Int))) (k l.toNat (h - l).toNat false)
   | some m => opd st m fun a => asInt a fun _ m =>
    guardB (hi.isSome && decide (0 ≤ l) && decide (l ≤ h) && decide (h = m) && decide (h ≤ (len : Int))) (k l.toNat (h - l).toNat true)
 match a with
 | .v (.sl e) (.bor l _) x => sameTy (.sl e) ty (go (List.length x) fun lo len _ => k (.v (.sl e) (.bor l false) ((List.drop lo x).take len)) st)
 | .al s n p => match own? (st.get s) n with
  | some o => o.sl p fun e _ x => sameTy (.sl e) ty (go (List.length x) fun lo len c => k (.sub s n p lo len c) st)
  | none => none
 | _ => none

/-- the place of an element; ty: the type that the text tells -/
def indexD (arr : Bool) (st : St) (ty : Ty) (a : AV) (i : Int) (k : AV → Option R) : Option R := match a with
 | .v (.sl e) m x => sameTy (.sl e) ty (guardB (inb i (List.length x)) (k (.rop e m.el (List.getD x i.toNat (dflt e)))))
 | .al s n p => match own? (st.get s) n with
  | some o => o.sl p fun e _ x => sameTy (.sl e) ty (guardB (inb i (List.length x)) (k (.pl s n (p ++ [.el i.toNat]))))
  | none => none
 | .sub s n p lo len _ => match own? (st.get s) n with
  | some o => o.sl p fun e _ x => sameTy (.sl e) ty (guardB (inb i ((x.drop lo).take len).length) (k (.pl s n (p ++ [.el (lo + i.toNat)]))))
  | none => none
 | .pl s n p => guardB (arr && decide (0 ≤ i)) (match ownP? (st.get s) n p with
  | some o => match o.at p with
   | some ⟨t, m, x⟩ => sameTy t ty (match fieldOf t m x i.toNat with
    | some _ => k (.pl s n (p ++ [.fld i.toNat]))
    | none => none)
   | none => none
  | none => none)
 | .rop t m x => sameTy t ty (guardB (arr && decide (0 ≤ i)) (match fieldOf t m x i.toNat with
  | some ⟨t', m', y⟩ => k (.rop t' m' y)
  | none => none))
 | _ => none

def fieldD (st : St) (ty : Ty) (a : AV) (f : Nat) (k : AV → Option R) : Option R := match a with
 | .pl s n p => match ownP? (st.get s) n p with
  | some o => match o.at p with
   | some ⟨t, m, x⟩ => sameTy t ty (match fieldOf t m x f with
    | some _ => k (.pl s n (p ++ [.fld f]))
    | none => none)
   | none => none
  | none => none
 | .rop t m x => sameTy t ty (match fieldOf t m x f with
  | some ⟨t', m', y⟩ => k (.rop t' m' y)
  | none => none)
 | _ => none

/-- the mode with another one at a path of fields -/
def setF (m : Md) (n : Nat) (f : Md → Md) : Md := match n with
 | 0 => .pair (f m.fst) m.snd
 | n + 1 => .pair m.fst (setF m.snd n f)
def setM : List Stp → Md → Md → Md
 | .fld n :: p, m, m' => setF m n fun m => setM p m m'
 | _, _, m' => m'

/-- numbers and booleans have one mode -/
def plainM (t : Ty) (m : Md) : Md := match t with | .int _ | .bool => .bor false true | _ => m
/-- a value to be kept, with the mode that it has -/
def takeAny (st : St) (a : AV) (t : Ty) (k : Md → den t → St → Option R) : Option R := match a with
 | .v t' m' x => if h : t' = t then k (plainM t m') (h ▸ x) st else none
 | .al s n p => match own? (st.get s) n with
  | some o => match isMp t with
   | true => o.mp p fun k1 e1 m' x => if h : .mp k1 e1 = t then (match m'.nz? with | true => k m' (h ▸ (show den (.mp k1 e1) from x)) (st.set s .dead) | false => none) else none
   | false => o.sl p fun e m' x => if h : .sl e = t then k m' (h ▸ x) (st.set s .dead) else none
  | none => none
 | .nilS => match t with
  | .sl _ => k (.own true (.bor false false)) [] st
  | _ => none
 | _ => none
/-- a value to be kept and shared -/
def takeRo (st : St) (a : AV) (t : Ty) (k : Md → den t → St → Option R) : Option R := match a with
 | .v t' m' x => if h : t' = t then k m' (h ▸ x) st else none
 | a => take st a t (.bor false false) fun x st => k (.bor false false) x st

def partsF : (t : Ty) → Nat → List (Nat × Operand) → St → (Md → den t → St → Option R) → Option R
 | .pair a b, i, (j, x) :: r, st, k => match Nat.beq i j with
  | true => opd st x fun v => takeRo st v a fun m y st => partsF b (i + 1) r st fun ms ys st => k (.pair m ms) (y, ys) st
  | false => partsF b (i + 1) ((j, x) :: r) st fun ms ys st => k (.pair (.bor false true) ms) (dflt a, ys) st
 | .pair a b, i, [], st, k => partsF b (i + 1) [] st fun ms ys st => k (.pair (.bor false true) ms) (dflt a, ys) st
 | .unit, _, [], st, k => k (.bor false false) () st
 | _, _, _, _, _ => none

/-- the stamp of an owner's form -/
def formOf : AV → Nat
 | .ow n _ _ _ => n
 | .box _ u _ _ _ => u
 | _ => 0

/-- the parts of a struct that owns them; what is not told is zero -/
def partsO (M : Md) : (t : Ty) → Nat → List (Nat × Operand) → St → (den t → St → Option R) → Option R
 | .pair a b, i, (j, x) :: r, st, k => match Nat.beq i j with
  | true => opd st x fun v => take st v a (fldMd M i) fun y st => partsO M b (i + 1) r st fun ys st => k (y, ys) st
  | false => guardK (noMp a) (partsO M b (i + 1) ((j, x) :: r) st fun ys st => k (dflt a, ys) st)
 | .pair a b, i, [], st, k => guardK (noMp a) (partsO M b (i + 1) [] st fun ys st => k (dflt a, ys) st)
 | .unit, _, [], st, k => k () st
 | _, _, _, _, _ => none
/-- a struct that a slot owns -/
def owS (st : St) : Operand → Option (Nat × TV)
 | .tmp s => match st.get s with
  | .ow _ t m x => match isCell t with | false => some (s, ⟨t, m, x⟩) | true => none
  | _ => none
 | _ => none

/-- the mode of a variable's zero value: of a slice what the table tells, where its elements are as they are at the top -/
def allocM (T : Tab) (t : Nat) : Ty → Md
 | .sl e => match T.md t with
  | .own nz me => match decide (me = topM e) with | true => .own nz me | false => topM (.sl e)
  | _ => topM (.sl e)
 | ty => topM ty
/-- a pointer to a whole box, by the box's own stamp -/
def isCel (st : St) : Ty → AV → Option (Nat × Nat)
 | .bx _, .pl s n p => match st.get s with
  | .box n1 _ _ _ _ => match Nat.beq n n1 && eqP p [.dr] with | true => some (s, n) | false => none
  | _ => none
 | _, _ => none
def loadD (st : St) (ty : Ty) (a : AV) (k : AV → Option R) : Option R := match a with
 | .pl s n p => match ownP? (st.get s) n p with
  | some o => match o.at p with
   | some ⟨t, m, x⟩ => sameTy t ty (match m.hasOwn with
    | false => k (.v t m x)
    | true => match t, m.isOwn with
     | .sl _, true => k (.al s (formOf (st.get s)) p)
     | .mp _ _, true => (match m.nz? with | true => k (.al s (formOf (st.get s)) p) | false => none)
     | _, _ => none)
   | none => none
  | none => none
 | .rop t m x => sameTy t ty (match m.hasOwn with | false => k (.v t m x) | true => none)
 | .cel s n => match ty, st.get s with
  | .bx _, .box n1 _ _ _ _ => match Nat.beq n n1 with | true => k (.pl s n1 [.dr]) | false => none
  | _, _ => none
 | _ => none

/-- An alias of all that slot s owns: it holds on when a part of that is laid anew. -/
def topP : List Stp → Bool
 | [] => true
 | [.dr] => true
 | _ => false
def restA (s n c : Nat) : AV → AV
 | .al s' n' q => match Nat.beq s s' && (Nat.beq n n' && topP q) with | true => .al s' c q | false => .al s' n' q
 | a => a
def St.rest (st : St) (s n c : Nat) : St := ⟨st.c, st.l.map fun x => (x.1, restA s n c x.2)⟩

/-- a box that is read whole shares what it owned -/
def frz (st : St) : AV → Option St
 | .pl s n p => match st.get s with
  | .box n1 _ t m x => match Nat.beq n n1 && eqP p [.dr] && !isCell t && (m.hasOwn && leM t 0 m (.bor false false)) with
   | true => some (st.set s (.box n1 st.c t (.bor false false) x))
   | false => none
  | _ => none
 | _ => none

/-- a box with another part at a path of fields, whatever its mode -/
def boxPut (st : St) (s n : Nat) (p : List Stp) (t : Ty) (m' : Md) (y : den t) (k : St → Option R) : Option R := match st.get s with
 | .box n1 _ tb mb xb => match Nat.beq n n1 with
  | true => match updP p tb xb t y with
   | some z => k (st.set s (.box n1 st.c tb (setM p mb m') z))
   | none => none
  | false => none
 | _ => none
def storeB (st : St) (s n : Nat) (p : List Stp) (t : Ty) (x : AV) (k : St → Option R) : Option R :=
 takeAny st x t fun m' y st => boxPut st s n p t m' y k

def headOK : List Stp → Bool
 | .dr :: _ | .el _ :: _ => true
 | _ => false
/-- rs: aliases of all that the slot owns hold on -/
def storeD (rs : Bool) (st : St) (ty : Ty) (a x : AV) (k : St → Option R) : Option R := match a with
 | .pl s n p => match ownP? (st.get s) n p with
  | some o => match o.at p with
   | some ⟨t, m, _⟩ => sameTy t ty <| match shallowD p with
    | true => storeB st s n p.tail t x k
    | false => guardB (headOK p) <| take st x t m fun y st => match ownP? (st.get s) n p with
     | some o => match o.upd p t y with
      | some o => match m.hasOwn || !flat t with
       | true => (newAV (st.get s) o (some st.c)).force fun v => k ((match rs with | true => st.rest s (formOf (st.get s)) st.c | false => st).set s v)
       | false => guardK (noApp st s) ((newAV (st.get s) o none).force fun v => k (st.set s v))
      | none => none
     | none => none
   | none => none
  | none => none
 | _ => none

/-- what an append made of a part is stored there -/
def storeA (st : St) (ty : Ty) (a : AV) (x : Operand) (k : St → Option R) : Option R := match x with
 | .tmp d => match st.get d with
  | .app s n p e nz me zs => match a with
   | .pl s' n' p' => guardK (Nat.beq s s' && headOK p && !Nat.beq d s) (guardB (decide (p = p')) (match own? (st.get s) n, ownP? (st.get s) n' p with
    | some _, some o => match o.at p with
     | some ⟨t, _, _⟩ => if h : Ty.sl e = t then sameTy t ty (match shallowD p with
      | true => boxPut (st.set d .dead) s n' p.tail t (.own nz me) (h ▸ zs) k
      | false => match o.upd p t (h ▸ zs) with
       | some o => (newAV (st.get s) o (some st.c)).force fun v => k ((st.set d .dead).set s v)
       | none => none) else none
     | none => none
    | _, _ => none))
   | _ => none
  | _ => none
 | _ => none

/-- a map gets another entry, or loses one -/
def updMapD (st : St) (ty : Ty) (a : AV) (f : (k e : Ty) → List (den k × den e) → (List (den k × den e) → Option R) → Option R) (K : St → Option R) : Option R := match a with
 | .al s n p => match own? (st.get s) n with
  | some o => o.mp p fun k e m x => guardK (m.nz? && noApp st s && flat k && flat e) <| sameTy (.mp k e) ty <| f k e x fun y => match o.upd p (.mp k e) y with
   | some o' => (newAV (st.get s) o' none).force fun v => K (st.set s v)
   | none => none
  | none => none
 | _ => none
/-- a key -/
def keyD (k : Ty) (b : AV) (f : den k → Option R) : Option R := match b with
 | .v t _ y => if h : t = k then f (h ▸ y) else none
 | _ => none
def lookupD (st : St) (ty : Ty) (a b : AV) (f : (e : Ty) → Option (den e) → Option R) : Option R := asMap st a fun k e x => guardK (flat k && flat e) <| sameTy (.mp k e) ty <| keyD k b fun y => f e (getM k e x y)

/-- what is owned needs a slot -/
def ownK (o : Oper) (K : AV → St → Option R) : AV → St → Option R := match o.dst with
 | some _ => K
 | none => fun _ _ => none

/-- the function that makes a walk backwards -/
def mkD (st : St) (f : Nat) (caps : List AV) (args : List Operand) (K : AV → St → Option R) : Option R := match T.bk f, args, caps with
 | some (.mk g S), [x], [] => match T.ty S with
  | some ty => opd st x fun a => match a with
   | .v (.sl e) (.bor l _) x => sameTy ty (.sl e) (K (.clo g [.rop (.sl e) (.bor l false) x]) st)
   | _ => none
  | none => none
 | _, _, _ => none

def storeS (rs : Bool) (st : St) (t : TypeId) (a x : Operand) (K : AV → St → Option R) : Option R := match T.ty t with
 | some ty => opd st a fun a => match appOp st x with
  | true => storeA st ty a x fun st => K .dead st
  | false => opd st x fun x => storeD rs st ty a x fun st => K .dead st
 | none => none

def nilMap : Operand → Bool
 | .const (.map none) => true
 | _ => false
noncomputable def step (o : Oper) (st : St) (K : AV → St → Option R) : Option R := match o.op with
 | .move (.tmp t) => match st.get t with
  | .tup l => ownK o K (.tup l) (st.set t .dead)
  | _ => opd st (.tmp t) fun a => K a st
 | .move x => opd st x fun a => K a st
 | .assign (.tmp t) => opd st (.tmp t) fun a => match a with
  | .al s n [] => match own? (st.get s) n with
   | some o' => match isMp o'.t with
    | true => o'.mp [] fun k e m x => guardK m.nz? (ownK o K (.ow st.c (.mp k e) m x) (st.set s .dead))
    | false => o'.sl [] fun e m x => ownK o K (.ow st.c (.sl e) m x) (st.set s .dead)
   | none => none
  | .sub s n p lo len false => match own? (st.get s) n with
   | some o' => o'.sl p fun e m x => match m with
    | .own _ me => match me.hasOwn with
     | false => ownK o K (.ow st.c (.sl e) (.own false me) ((x.drop lo).take len)) (st.set s .dead)
     | true => none
    | _ => none
   | none => none
  | a => K a st
 | .assign x => match nilMap x with
  | true => match T.ty o.type with
   | some (.mp k e) => K (.v (.mp k e) (.bor false false) []) st
   | _ => none
  | false => opd st x fun a => match a with
   | .nilS => match T.ty o.type with
    | some (.sl e) => made st (.sl e) (T.md o.type) [] (ownK o K)
    | _ => none
   | a => K a st
 | .pick c a b => opd st c fun c => asBool c fun c => match c with
  | true => opd st a fun a => K a st
  | false => opd st b fun b => K b st
 | .binOp op t x y _ => opd st x fun a => opd st y fun b => match b with
  | .nilS => match T.ty t with
   | some (.sl _) => match op with
    | .eql => nilD st a fun c => K (.v .bool (.bor false true) c) st
    | .neq => nilD st a fun c => K (.v .bool (.bor false true) (!c)) st
    | _ => none
   | _ => none
  | b => binD (T.ty t) op a b fun v => K v st
 | .unOp op _ x => opd st x fun a => match op, a with
  | .not, .v .bool _ c => K (.v .bool (.bor false true) (!c)) st
  | .neg, .v (.int k) _ n => K (.v (.int k) (.bor false true) (k.wrap (0 - n))) st
  | .xor, .v (.int k) _ n => match bitsI .xor k (match k.signed with | true => -1 | false => k.max) n with
   | some r => K (.v (.int k) (.bor false true) r) st
   | none => none
  | _, _ => none
 | .convert s d x => match T.ty s, T.ty d with
  | some (.int _), some (.int k) => opd st x fun a => asInt a fun _ n => K (.v (.int k) (.bor false true) (k.wrap n)) st
  | _, _ => none
 | .alloc t => match T.ty t with
  | some ty => ownK o K (.box st.c (st.c + 1) ty (allocM T t ty) (dflt ty)) st
  | none => none
 | .box t x => match T.ty t with
  | some ty => match owS st x with
   | some (s, ⟨t', m, y⟩) => if h : t' = ty then ownK o K (.box st.c (st.c + 1) ty m (h ▸ y)) (st.set s .dead) else none
   | none => opd st x fun a => match isCel st ty a with
    | some (s, n) => K (.cel s n) st
    | none => takeAny st a ty fun m y st => ownK o K (.box st.c (st.c + 1) ty m y) st
  | none => none
 | .build t ps => match T.ty t with
  | some ty => match (T.md t).hasOwn with
   | true => partsO (T.md t) ty 0 ps.toList st fun x st => ownK o K (.ow st.c ty (T.md t) x) st
   | false => partsF ty 0 ps.toList st fun m x st => K (.v ty m x) st
  | none => none
 | .nilCheck x => opd st x fun a => match a with
  | .pl s n p => match ownP? (st.get s) n p with
   | some _ => K (.pl s n p) st
   | none => none
  | .rop t m y => K (.rop t m y) st
  | _ => none
 | .buildSlice t n ps => match T.ty t, T.md t with
  | some (.sl e), .own nz me => match Nat.beq n ps.toList.length && (bimp nz (!Nat.beq n 0)) && !me.hasOwn && Nat.ble (n * sz e) 16777216 with
   | true => partsS e me 0 ps.toList st fun xs st => ownK o K (.ow st.c (.sl e) (.own nz me) xs) st
   | false => match Nat.beq n 0 && Nat.beq ps.toList.length 0 with
    | true => ownK o K (.ow st.c (.sl e) (.own false me) []) st
    | false => none
  | _, _ => none
 | .makeSlice t l c => match T.ty t, T.md t with
  | some (.sl e), .own _ me => opd st l fun l => asInt l fun _ l => opd st c fun c => asInt c fun _ c =>
   guardK (noMp e) <| guardB (decide (0 ≤ l) && decide (l ≤ c) && decide (c ≤ (lim : Int)))
    (ownK o K (.ow st.c (.sl e) (.own false me) (List.replicate l.toNat (dflt e))) st)
  | _, _ => none
 | .load t a => match T.ty t with
  | some ty => opd st a fun a => match frz st a with
   | some st => loadD st ty a fun v => K v st
   | none => loadD st ty a fun v => K v st
  | none => none
 | .store t a x => storeS T false st t a x K
 | .fieldAddr t x f => match T.ty t with
  | some ty => opd st x fun a => guardB (!T.arr t) (fieldD st ty a f fun v => K v st)
  | none => none
 | .field t x f => match T.ty t with
  | some ty => opd st x fun a => match a with
   | .v t1 m x => sameTy t1 ty (guardB (!T.arr t) (match fieldOf t1 m x f with
    | some ⟨t', m', y⟩ => K (.v t' m' y) st
    | none => none))
   | _ => none
  | none => none
 | .indexAddr t x i => match T.ty t with
  | some ty => opd st x fun a => opd st i fun i => asInt i fun _ i => indexD (T.arr t) st ty a i fun v => K v st
  | none => none
 | .index t x i => match T.ty t with
  | some ty => opd st x fun a => opd st i fun i => asInt i fun _ i => match a with
   | .v t1 m x => sameTy t1 ty (guardB (T.arr t && decide (0 ≤ i)) (match fieldOf t1 m x i.toNat with
    | some ⟨t', m', y⟩ => K (.v t' m' y) st
    | none => none))
   | _ => none
  | none => match x with
   | .const (.string s) => guardB (T.str t) (opd st i fun i => asInt i fun _ i => guardB (inb i (bytesOf s).length) (K (.v (.int .u8) (.bor false true) (List.getD (bytesOf s) i.toNat 0)) st))
   | _ => none
 | .makeMap t none => match T.ty t with
  | some (.mp k e) => guardK (flat k && flat e) (ownK o K (.ow st.c (.mp k e) (.own true (.bor false false)) []) st)
  | _ => none
 | .lookup t x i ok => match T.ty t with
  | some ty => opd st x fun a => opd st i fun b => lookupD st ty a b fun e r => match ok with
   | true => ownK o K (.tup [.v e (.bor false true) (r.getD (dflt e)), .v .bool (.bor false true) r.isSome]) st
   | false => K (.v e (.bor false true) (r.getD (dflt e))) st
  | none => none
 | .mapUpdate t x i y => match T.ty t with
  | some ty => opd st x fun a => opd st i fun b => opd st y fun c => updMapD st ty a (fun k e xs f => keyD k b fun kv => keyD e c fun ev => f (insM k e xs kv ev)) fun st => K .dead st
  | none => none
 | .range t x => match T.ty t with
  | some ty => opd st x fun a => match a with
   | .al s n p => match own? (st.get s) n with
    | some ow => ow.mp p fun k e m x => guardK (m.nz? && (flat k && isCell k && (flat e && isCell e))) <| sameTy (.mp k e) ty <| ownK o K (.it s n p k e x none) st
    | none => none
   | _ => none
  | none => none
 | .entry (.tmp t) => match st.get t with
  | .it s n _ k e _ (some z) => match own? (st.get s) n with
   | some _ => ownK o K (.tup [.v k (.bor false true) z.1, .v e (.bor false true) z.2]) st
   | none => none
  | _ => none
 | .insert t x i y => match T.ty t with
  | some ty => opd st x fun a => opd st i fun b => opd st y fun c => updMapD st ty a (fun k e xs f => keyD k b fun kv => keyD e c fun ev => f (insM k e xs kv ev)) fun st => K .dead st
  | none => none
 | .mapEntry t x i => match T.ty t with
  | some (.mp k e) => opd st x fun a => opd st i fun b => match a with
   | .al s n p => keyD k b fun y => updMapD st (.mp k e) (.al s n p) (fun k' e' xs f => keyD k' b fun kv => f (insM k' e' xs kv ((getM k' e' xs kv).getD (dflt e')))) fun st => ownK o K (.ent s n p k y true) st
   | _ => none
  | _ => none
 | .entryStore t x z y => match z with
  | .tmp d => match T.ty t, st.get d with
   | some ty, .ent s n p kt kv false => opd (st.set d .dead) x fun a => opd (st.set d .dead) y fun c => match a with
    | .al s' n' p' => guardB (Nat.beq s s' && Nat.beq n n' && eqP p p' && !Nat.beq d s) (updMapD (st.set d .dead) ty (.al s' n' p') (fun k e xs f => keyD k (.v kt (.bor false true) kv) fun kv => keyD e c fun ev => f (insM k e xs kv ev)) fun st => K .dead st)
    | _ => none
   | _, _ => none
  | _ => none
 | .slice t x lo hi mx => match T.ty t with
  | some ty => opd st x fun a => sliceD st ty a lo hi mx K
  | none => none
 | .extract (.tmp s) i => match st.get s with
  | .tup l => match l.getD i .dead with
   | .v t m x => K (.v t m x) st
   | .ow _ t m x => guardB (match o.dst with | some d => !Nat.beq d s | none => false) (openA st.c t m x fun v => K v (st.set s (.tup (l.set i .dead))))
   | _ => none
  | .ent s' n p kt y true => guardB (match o.dst with | some d => !Nat.beq d s && Nat.beq i 1 | none => false) (K (.ent s' n p kt y false) (st.set s .dead))
  | _ => none
 | .makeFunc (.func f) first caps => match first.toList with
  | [] => opds st caps.toList fun l => guardB (l.all notClo) (K (.clo f l) st)
  | _ => none
 | .call c => match c.callee with
  | .builtin .len => match c.args.toList with
   | [x] => match c.argTypes.toList with
    | [t] => match T.ty t with
     | some ty => opd st x fun a => lenD st ty a fun n => K (.v (.int .i64) (.bor false true) n) st
     | none => none
    | _ => none
   | _ => none
  | .builtin .append => match c.args.toList, c.argTypes.toList with
   | [x, y], [t, u] => match T.ty t, T.ty u with
    | some ty, some (.sl _) => opd st x fun a => opd st y fun b => appendD st ty (T.md t) a b (ownK o K)
    | _, _ => none
   | _, _ => none
  | .builtin .copy => match c.args.toList, c.argTypes.toList with
   | [x, y], [t, _] => match T.ty t with
    | some ty => opd st x fun a => opd st y fun b => copyD st ty a b K
    | none => none
   | _, _ => none
  | .builtin .delete => match c.args.toList, c.argTypes.toList with
   | [x, i], t :: _ => match T.ty t with
    | some ty => opd st x fun a => opd st i fun b => updMapD st ty a (fun k e xs f => keyD k b fun kv => f (delM k e xs kv)) fun st => K .dead st
    | none => none
   | _, _ => none
  | .builtin .min => match c.args.toList with
   | [x, y] => opd st x fun a => opd st y fun b => asInt a fun k a => asInt b fun _ b => K (.v (.int k) (.bor false true) (if b < a then b else a)) st
   | [x, y, z] => opd st x fun a => opd st y fun b => opd st z fun c => asInt a fun k a => asInt b fun _ b => asInt c fun _ c => K (.v (.int k) (.bor false true) (if c < (if b < a then b else a) then c else (if b < a then b else a))) st
   | _ => none
  | .builtin .max => match c.args.toList with
   | [x, y] => opd st x fun a => opd st y fun b => asInt a fun k a => asInt b fun _ b => K (.v (.int k) (.bor false true) (if b > a then b else a)) st
   | [x, y, z] => opd st x fun a => opd st y fun b => opd st z fun c => asInt a fun k a => asInt b fun _ b => asInt c fun _ c => K (.v (.int k) (.bor false true) (if c > (if b > a then b else a) then c else (if b > a then b else a))) st
   | _ => none
  | .value f => opd st f fun f => match f with
   | .clo f caps => match Φ f with
    | some C => opds st c.args.toList fun l => callD st C o.dst (l ++ caps) (match C.outs with | [] => K | _ => ownK o K)
    | none => mkD T st f caps c.args.toList K
   | _ => none
  | _ => none
 | _ => none

/-- an operation under its guard -/
noncomputable def gstep (all : List Oper) (o : Oper) (st : St) (K : AV → St → Option R) : Option R := match o.guard with
 | none => step T Φ o st K
 | some (j, want) => match (all.map (·.dst)).getD j none with
  | none => none
  | some g => match st.get g with
   | .v .bool m c => match c with
    | true => (match want with
     | true => step T Φ o (st.set g (.v .bool m true)) K
     | false => K .undefd (st.set g (.v .bool m true)))
    | false => (match want with
     | false => step T Φ o (st.set g (.v .bool m false)) K
     | true => K .undefd (st.set g (.v .bool m false)))
   | .undefd => K .undefd st
   | _ => none

open Classical in
/-- what all choices agree on -/
noncomputable def agree (n : Nat) (f : Nat → Option R) : Option R := if h : ∃ r, ∀ i, i < n → f i = some r then some h.choose else none
theorem agree_some {n : Nat} {f : Nat → Option R} {r : R} (hn : 0 < n) (h : agree n f = some r) : ∀ i, i < n → f i = some r := by
 unfold agree at h
 split at h
 ·rename_i hx
  cases h
  exact hx.choose_spec
 ·cases h
theorem agree_of {n : Nat} {f : Nat → Option R} {r : R} (hn : 0 < n) (h : ∀ i, i < n → f i = some r) : agree n f = some r := by
 unfold agree
 have hx : ∃ r, ∀ i, i < n → f i = some r := ⟨r, h⟩
 rw [dif_pos hx]
 have h1 := hx.choose_spec 0 hn
 rw [h 0 hn] at h1
 exact h1.symm

/-- a step over a map: what is left may come in any order -/
noncomputable def nextD (x : Operand) (st : St) (K : AV → St → Option R) : Option R := match x with
 | .tmp t => match st.get t with
  | .it s n p k e l _ => match own? (st.get s) n with
   | some _ => bif List.isEmpty l then K (.tup [.v .bool (.bor false true) false]) st
    else agree (List.length l) fun i => K (.tup [.v .bool (.bor false true) true, .dead, .dead]) (st.set t (.it s n p k e (List.eraseIdx l i) (some (List.getD l i (dflt k, dflt e)))))
   | none => none
  | _ => none
 | _ => none
def isNext (o : Oper) : Option Operand := match o.guard, o.dst, o.op with
 | none, some _, .next x false => some x
 | _, _, _ => none
def isStore (o : Oper) : Option (TypeId × Operand × Operand) := match o.guard, o.op with
 | none, .store t a x => some (t, a, x)
 | _, _ => none
noncomputable def ops (all : List Oper) (K : St → Option R) : List Oper → St → Option R
 | [], st => K st
 | o :: rest, st => match isNext o with
  | some x => nextD x st fun v st' => v.force fun v => ops all K rest ((st'.put o.dst v).tick st.c)
  | none => match isStore o with
   | some (t, a, x) => storeS T true st t a x fun v st' => v.force fun v => ops all K rest ((st'.put o.dst v).tick st.c)
   | none => gstep T Φ all o st fun v st' => v.force fun v => ops all K rest ((st'.put o.dst v).tick st.c)

/-- the owner that a value points into -/
def target : AV → List Nat
 | .al s _ _ | .pl s _ _ | .sub s _ _ _ _ _ | .cel s _ => [s]
 | _ => []
def targets : AV → List Nat
 | .clo _ l => l.flatMap target
 | a => target a
/-- the slots of an operand, with the owners behind them -/
def behind (st : St) : Operand → List Nat
 | .tmp t => t :: (match st.get t with
  | .ow _ _ _ _ | .box _ _ _ _ _ | .tup _ => [t]
  | a => targets a)
 | _ => []
/-- operations that leave memory and state alone -/
def flOp (o : Oper) : Bool := match o.op with
 | .move _ | .pick _ _ _ | .binOp _ _ _ _ _ | .unOp _ _ _ | .convert _ _ _ | .load _ _ | .fieldAddr _ _ _ | .field _ _ _ | .indexAddr _ _ _ | .index _ _ _ | .slice _ _ _ _ _ | .makeFunc _ _ _ | .lookup _ _ _ false | .nilCheck _ => true
 | .call c => match c.callee with
  | .builtin .len | .builtin .min | .builtin .max => true
  | _ => false
 | _ => false
/-- is it known of a slice whether it is nil? -/
def sureN (st : St) : AV → Bool
 | .v _ m _ => m.nz?
 | .al s n p => match own? (st.get s) n with
  | some o => (match o.at p with | some tv => tv.m.nz? | none => false)
  | none => false
 | _ => true
def nilSure (st : St) (x y : Operand) : Bool := match opd st y some with
 | some .nilS => (match opd st x some with | some a => sureN st a | none => true)
 | _ => true
/-- no tuple is moved, nothing is asked that is not known -/
def noTup (st : St) (o : Oper) : Bool := match o.op with
 | .move (.tmp t) => match st.get t with
  | .tup _ => false
  | _ => true
 | .binOp _ _ x y _ => nilSure st x y
 | .load _ x => (match opd st x some with | some a => (frz st a).isNone | none => true)
 | _ => true
/-- the slots that an operation looks at -/
def footO (st : St) (o : Oper) : List Nat := o.op.operands.toList.flatMap (behind st)
def guardL (all : List Oper) (o : Oper) : List Nat := match o.guard with
 | some (j, _) => (match (all.map (·.dst)).getD j none with | some g => [g] | none => [])
 | none => []
def dstL (o : Oper) : List Nat := match o.dst with | some d => [d] | none => []
def mem (i : Nat) (l : List Nat) : Bool := l.any (Nat.beq i)
def apartL (a b : List Nat) : Bool := a.all fun x => !mem x b
/-- an operand that owns nothing -/
def freeO (st : St) (x : Operand) : Bool := match opd st x some with
 | some a => isFree a
 | none => false
/-- the owners behind arguments that are handed over -/
def wsArgs : List PT → List AV → List Nat
 | .val _ m :: r, a :: l => (match m with | .bor true _ => [] | _ => target a) ++ wsArgs r l
 | .box _ _ :: r, a :: l => target a ++ wsArgs r l
 | _ :: r, _ :: l => wsArgs r l
 | _, _ => []
/-- the slots that an operation writes besides its own, where that is simple -/
def wsM (st : St) (o : Oper) : Option (List Nat) := match o.op with
 | .alloc _ | .makeSlice _ _ _ => some []
 | .move (.tmp t) => some [t]
 | .extract (.tmp s) _ => some [s]
 | .mapEntry _ x _ => match opd st x some with
  | some (.al s _ _) => some [s]
  | _ => none
 | .entryStore _ x (.tmp d) _ => match opd (st.set d .dead) x some with
  | some (.al s _ _) => some [d, s]
  | _ => none
 | .assign x => match freeO st x with
  | true => some []
  | false => match opd st x some with
   | some (.al s _ []) => some [s]
   | some (.al _ _ (_ :: _)) => some []
   | some (.sub s _ _ _ _ false) => some [s]
   | _ => none
 | .store _ a x => match freeO st x with
  | true => match opd st a some with
   | some (.pl s _ _) => some [s]
   | _ => none
  | false => none
 | .box _ x => match freeO st x with | true => some [] | false => none
 | .buildSlice _ _ ps => match ps.toList.all fun p => freeO st p.2 with | true => some [] | false => none
 | .build _ ps => match ps.toList.all fun p => freeO st p.2 with | true => some [] | false => none
 | .call c => match c.callee with
  | .value f => match opd st f some with
   | some (.clo f caps) => match Φ f with
    | some C => match C.io, lentOnly C.ps with
     | [], true => some []
     | _, _ => match opds st c.args.toList some with
      | some l => some (wsArgs C.ps (l ++ caps) ++ (match wholes st o.dst (l ++ caps) C.io with | some ss => ss.map (·.1) | none => []))
      | none => none
    | none => none
   | _ => none
  | .builtin .append => match c.args.toList, c.argTypes.toList with
   | [x, _], [t, _] => match T.ty t, opd st x some with
    | some (.sl e), some a => match flat e with
     | true => match a with
      | .al s _ [] => some [s]
      | .al _ _ (_ :: _) => some []
      | .nilS => some []
      | _ => none
     | false => none
    | _, _ => none
   | _, _ => none
  | .builtin .copy => match c.args.toList with
   | [x, _] => match opd st x some with
    | some a => match dstOf a with
     | some (s, _) => some [s]
     | none => none
    | none => none
   | _ => none
  | _ => none
 | _ => none
/-- the edges that always bind -/
def bef1 (o : Oper) : List Nat := (o.after.toList.filter (Region.binds .any)).map (·.on)
def readyL (os : List Oper) (C : List Nat) : List Nat := (List.range os.length).filter fun i => !mem i C && (match os[i]? with
 | some o => (bef1 o).all fun j => mem j C
 | none => false)
/-- the operations that must come before each one -/
def addN (i : Nat) (l : List Nat) : List Nat := match mem i l with | true => l | false => i :: l
def befGo : List Oper → List (List Nat) → List (List Nat)
 | [], acc => acc
 | o :: r, acc => befGo r (acc ++ [(bef1 o).foldr (fun j l => (j :: acc.getD j []).foldr addN l) []])
def isFl (st : St) (os : List Oper) (i : Nat) : Bool := match os[i]? with | some o => flOp o && noTup st o | none => false

/-- what the runs of all of a list agree on -/
noncomputable def eachO (f : Nat → Option R) : Nat → List Nat → Option R
 | i, [] => f i
 | i, j :: r => both (f i) (eachO f j r)
theorem eachO_some {f : Nat → Option R} {r : R} : ∀ {l : List Nat} {i : Nat}, eachO f i l = some r → ∀ j ∈ i :: l, f j = some r
 | [], i, h, j, hj => by simp only [List.mem_singleton] at hj; subst hj; exact h
 | k :: l, i, h, j, hj => by
  obtain ⟨h1, h2⟩ := both_some h
  rcases List.mem_cons.1 hj with rfl | hj
  ·exact h1
  ·exact eachO_some h2 j hj

/-- what was run ahead, and may yet stand behind what is written now -/
def befOK (bs : List (List Nat)) (i : Nat) (st : St) (o : Oper) (f : Nat × List Nat) : Bool := mem f.1 (bs.getD i []) || (match wsM T Φ st o with | some ws => apartL (dstL o ++ ws) f.2 | none => false)
def lateL (bs : List (List Nat)) (i : Nat) (st : St) (o : Oper) (acc : List (Nat × List Nat)) : List (Nat × List Nat) := acc.filter fun f => !befOK T Φ bs i st o f
/-- the same place -/
def sameP (a b : AV) : Bool := match a, b with
 | .al s n p, .al s' n' p' | .pl s n p, .pl s' n' p' => Nat.beq s s' && (Nat.beq n n' && eqP p p')
 | _, _ => false
/-- what was run ahead, run again: it finds the same place -/
noncomputable def reAll (all : List Oper) (S : St) (K : Option R) : List (Nat × List Nat) → Option R
 | [] => K
 | f :: r => match all[f.1]? with
  | some fo => match fo.dst with
   | some d => guardK (flOp fo && (noTup S fo && (mem d f.2 && (guardL all fo ++ footO S fo).all fun u => mem u f.2))) <|
     gstep T Φ all fo S fun v _ => v.force fun v => guardB (sameP v (S.get d)) (reAll all S K r)
   | none => none
  | none => none

/-- operations whose order is drawn: first those that leave memory alone; then those that do not, in each order. `acc`: the former, with the slots that each looks at -/
noncomputable def drawOps (all : List Oper) (bs : List (List Nat)) (K : St → Option R) : Nat → List Nat → List (Nat × List Nat) → St → Option R
 | 0, _, _, _ => none
 | n + 1, C, acc, st => match readyL all C with
  | [] => K st
  | i :: rs => match (i :: rs).find? (isFl st all) with
   | some j => match all[j]? with
    | some o => guardB (noTup st o && apartL (dstL o) (guardL all o ++ footO st o) && acc.all fun f => apartL (dstL o) f.2) <|
     gstep T Φ all o st fun v st' => v.force fun v => drawOps all bs K n (j :: C) ((j, dstL o ++ (guardL all o ++ footO st o)) :: acc) ((st'.put o.dst v).tick st.c)
    | none => none
   | none => eachO (fun i => match all[i]? with
    | some o => gstep T Φ all o st fun v st' => v.force fun v => reAll T Φ all ((st'.put o.dst v).tick st.c) (drawOps all bs K n (i :: C) acc ((st'.put o.dst v).tick st.c)) (lateL T Φ bs i st o acc)
    | none => none) i rs

/-- a function calls itself: numbers, and the boxes -/
def selfArgs (st : St) : List Nat → (List Int → Option R) → Option R
 | [], k => k []
 | s :: r, k => match st.get s with
  | .v (.int .i64) _ n => selfArgs st r fun l => k (n :: l)
  | _ => none
def selfBx (st : St) : (l : List (Nat × Ty × Md)) → (denL (l.map (·.2)) → Option R) → Option R
 | [], k => k ()
 | (s, t, m) :: r, k => match st.get s with
  | .box _ _ t' m' x => if h : t' = t then (match decide (m' = m) with | true => selfBx st r fun xs => k (h ▸ x, xs) | false => none) else none
  | _ => none
def selfRo (st : St) : (l : List (Nat × Ty × Md)) → (denL (l.map (·.2)) → Option R) → Option R
 | [], k => k ()
 | (s, t, m) :: r, k => match st.get s with
  | .rop t' m' x => if h : t' = t then (match decide (m' = m) with | true => selfRo st r fun xs => k (h ▸ x, xs) | false => none) else none
  | _ => none
def selfPut (c : Nat) : (l : List (Nat × Ty × Md)) → denL (l.map (·.2)) → List (Nat × AV) → List (Nat × AV)
 | [], _, l => l
 | (s, t, m) :: r, x, l => (s, .box c (c + 1) t m x.1) :: selfPut c r x.2 l
noncomputable def selfReg (C : SelfC) (st : St) (K : St → Option R) : Option R :=
 ops T Φ C.mid (fun st => selfArgs st C.args fun as => selfBx st C.bxs fun xs => selfRo st C.ros fun zs => Option.bind (C.fn as xs zs) fun ys => K ⟨st.c + 2, selfPut st.c C.bxs ys ((C.d3, .dead) :: st.l)⟩) C.mid (st.set C.d1 .dead)

/-- At a loop's head only the kept slots count; stamps begin anew. -/
def fresh : Nat := 1000000
def form : Nat := 500000
def renewCaps (keep : List Nat) (st : St) : List AV → Option (List AV)
 | [] => some []
 | .rop t m x :: r => match renewCaps keep st r with
  | some l => some (.rop t m x :: l)
  | none => none
 | .pl s' n p :: r => match st.get s', keep.any (Nat.beq s') with
  | .box n1 _ _ _ _, true => match Nat.beq n n1 && shallowD p, renewCaps keep st r with
   | true, some l => some (.pl s' s' p :: l)
   | _, _ => none
  | _, _ => none
 | _ :: _ => none
def renew (keep : List Nat) (st : St) (s : Nat) : AV → AV
 | .v (.int k) _ x => .v (.int k) (.bor false true) x
 | .v .bool _ x => .v .bool (.bor false true) x
 | .ow _ t m x => .ow (form + s) t m x
 | .box _ _ t m x => .box s (form + s) t m x
 | .al s' n p => match own? (st.get s') n, keep.any (Nat.beq s') with
  | some _, true => .al s' (form + s') p
  | _, _ => .dead
 | .pl s' n p => match st.get s', keep.any (Nat.beq s') with
  | .ow n' _ _ _, true => match Nat.beq n n' with | true => .pl s' (form + s') p | false => .dead
  | .box n1 n2 _ _ _, true => match Nat.beq n n1 && shallowD p with
   | true => .pl s' s' p
   | false => match Nat.beq n n2 with | true => .pl s' (form + s') p | false => .dead
  | _, _ => .dead
 | .cel s' n => match st.get s', keep.any (Nat.beq s') with
  | .box n1 _ _ _ _, true => match Nat.beq n n1 with | true => .cel s' s' | false => .dead
  | _, _ => .dead
 | .sub s' n p lo len c => match own? (st.get s') n, keep.any (Nat.beq s') with
  | some _, true => .sub s' (form + s') p lo len c
  | _, _ => .dead
 | .tup _ => .dead
 | .app _ _ _ _ _ _ _ => .dead
 | .ent _ _ _ _ _ _ => .dead
 | .it s' n p k e l _ => match own? (st.get s') n, keep.any (Nat.beq s') with
  | some _, true => .it s' (form + s') p k e l none
  | _, _ => .dead
 | .clo f l => match renewCaps keep st l with
  | some l => .clo f l
  | none => .dead
 | a => a

def memB (s : Nat) (l : List Nat) : Bool := l.any (Nat.beq s)
def normL (keep : List Nat) (st : St) : List Nat → (List (Nat × AV) → Option R) → Option R
 | [], k => k []
 | s :: r, k => (renew keep st s (st.get s)).force fun v => normL keep st r fun l => k ((s, v) :: l)
def notNil : AV → Bool
 | .nilP => false
 | _ => true
/-- Where an owner does not last, what an alias tells of it becomes the alias' own. -/
def adopt (keep : List Nat) : List Nat → St → (St → Option R) → Option R
 | [], st, k => k st
 | s :: r, st, k => match st.get s with
  | .al s' n p => match memB s' keep with
   | true => adopt keep r st k
   | false => match own? (st.get s') n with
    | some o => match o.at p with
     | some ⟨.sl e, m, x⟩ => match m.isOwn with
      | true => adopt keep r ⟨st.c + 2, ((st.set s' .dead).set s (.ow st.c (.sl e) m x)).l⟩ k
      | false => adopt keep r st k
     | some ⟨.mp k1 e, m, x⟩ => match m.isOwn && m.nz? with
      | true => adopt keep r ⟨st.c + 2, ((st.set s' .dead).set s (.ow st.c (.mp k1 e) m x)).l⟩ k
      | false => adopt keep r st k
     | _ => adopt keep r st k
    | none => adopt keep r st k
  | _ => adopt keep r st k
def normK (keep : List Nat) (st : St) (k : St → Option R) : Option R := guardB (keep.all fun s => Nat.blt s form && notNil (st.get s)) (normL keep st keep fun l => k ⟨fresh, l⟩)
def norm (keep : List Nat) (st : St) (k : St → Option R) : Option R := adopt keep keep st fun st => normK keep st k

def iter : Nat → ((St → Option R) → St → Option R) → St → Option R
 | 0, _, _ => none
 | n + 1, F, st => F (iter n F) st

/-- slots that a text writes -/
def wrC : Code → List Nat
 | .region _ os _ => os.toList.flatMap fun o => match o.dst with | some d => [d] | none => []
 | .seq x y | .cond _ x y => wrC x ++ wrC y
 | .block _ c | .loop c => wrC c
 | _ => []
def clrL : List Nat → St → St
 | [], st => st
 | s :: r, st => clrL r (st.set s .dead)
/-- the list over which a walk backwards goes -/
def backArg (st : St) (t : Nat) (k : (e : Ty) → Bool → List (den e) → Option R) : Option R := match st.get t with
 | .clo g [.rop (.sl e) m x] => match T.bk g with
  | some (.gen S) => match T.ty S with
   | some ty => sameTy ty (.sl e) (k e m.lent? x)
   | none => none
  | _ => none
 | _ => none
/-- a walk backwards begins: p0 tells how many are left -/
def rfStart (st : St) (f : Operand) (ps : Array Nat) (ca cb : Code) (k : St → Option R) : Option R := match f with
 | .tmp t => match ps.toList with
  | [p0, p1] => guardK (!Nat.beq p0 p1 && !memB t (p0 :: p1 :: (wrC ca ++ wrC cb)) && !memB p0 (wrC ca ++ wrC cb)) <|
    backArg T st t fun _ _ x => guardB (Nat.ble (List.length x) lim) <| k (st.set p0 (.v (.int .i64) (.bor false true) ((List.length x : Nat) : Int)))
  | _ => none
 | _ => none
/-- one round of it -/
def rfRound (f : Operand) (ps : Array Nat) (ca cb : Code) (K run : St → Option R) (st : St) : Option R := match f with
 | .tmp t => match ps.toList with
  | [p0, p1] => match st.get p0 with
   | .v (.int .i64) _ k => bif decide (k ≤ 0) then K (clrL (p0 :: p1 :: (wrC ca ++ wrC cb)) st)
     else backArg T st t fun e l x => bif inb (k - 1) (List.length x) then
      run (((clrL (p0 :: p1 :: (wrC ca ++ wrC cb)) st).set p0 (.v (.int .i64) (.bor false true) (k - 1))).set p1 (.v e (.bor l false) (List.getD x (k - 1).toNat (dflt e)))) else none
   | _ => none
  | _ => none
 | _ => none

/-- `L` is what a loop means: its number, a round, the state at its head. -/
noncomputable def code (L : Nat → ((St → Option R) → St → Option R) → St → Option R) (keep : Nat → List Nat) :
  Nat → Code → (St → Option R) → (Nat → St → Option R) → (St → Option R) → St → Option R
 | _, .skip, K, _, _, st => K st
 | _, .region id os d, K, _, _, st => match T.sc id with
  | some C => selfReg T Φ C st K
  | none => match d with
   | false => ops T Φ os.toList K os.toList st
   | true => drawOps T Φ os.toList (befGo os.toList []) K (os.toList.length + 1) [] [] st
 | b, .seq x y, K, Kx, Kr, st => code L keep b x (code L keep b y K Kx Kr) Kx Kr st
 | b, .cond c x y, K, Kx, Kr, st => opd st c fun a => asBool a fun t => match c with
  | .tmp s => (match t with
   | true => code L keep b x K Kx Kr (st.set s (.v .bool (.bor false true) true))
   | false => code L keep b y K Kx Kr (st.set s (.v .bool (.bor false true) false)))
  | _ => (match t with
   | true => code L keep b x K Kx Kr st
   | false => code L keep b y K Kx Kr st)
 | _, .block id c, K, Kx, Kr, st => code L keep id c K (fun i st => match Nat.beq i id with | true => K st | false => Kx i st) Kr st
 | _, .exit id, _, Kx, _, st => Kx id st
 | _, .ret, _, _, Kr, st => Kr st
 | b, .loop c, _, Kx, Kr, st => match keep (b + 1000000) with
  | [] => norm (keep b) st (L b fun G st => code L keep b c (fun st => norm (keep b) st G) Kx Kr st)
  | _ :: _ => code L keep b c (fun st => norm (keep b) st (L b fun G st => code L keep b c (fun st => norm (keep b) st G) Kx Kr st)) Kx Kr st
 | b, .rangeFunc f ps ca cb, K, _, _, st => rfStart T st f ps ca cb fun st =>
   norm (keep b) st (L b fun G st => rfRound T f ps ca cb K (code L keep b ca (fun st => code L keep b cb (fun st => norm (keep b) st G) (fun _ _ => none) (fun _ => none) st) (fun _ _ => none) (fun _ => none)) st)
 | _, _, _, _, _, _ => none

/-- the parameters as a callee finds them -/
def initL : (ps : List PT) → Nat → denPs ps → List (Nat × AV)
 | [], _, _ => []
 | .val t m :: r, i, x => (i, match m.hasOwn with | true => .ow (form + i) t m x.1 | false => .v t m x.1) :: initL r (i + 1) x.2
 | .ptr t m :: r, i, x => (i, .rop t m x.1) :: initL r (i + 1) x.2
 | .clo f caps :: r, i, x => (i, .clo f (capsL caps x.1)) :: initL r (i + 1) x.2
 | .box t m :: r, i, x => (i, .box i (form + i) t m x.1) :: initL r (i + 1) x.2
where capsL : (caps : List (Ty × Md)) → denL caps → List AV
 | [], _ => []
 | c :: r, x => .rop c.1 c.2 x.1 :: capsL r x.2

/-- the results at the end -/
def retD (st : St) : (rs : List (Ty × Md)) → List ResultVar → (denL rs → Option R) → Option R
 | [], [], k => k ()
 | (t, m) :: r, .tmp s :: l, k => opd st (.tmp s) fun a => take st a t m fun x st => retD st r l fun xs => k (x, xs)
 | (t, m) :: r, .cell s ty :: l, k => match st.get s with
  | .box n _ _ _ _ => match T.ty ty with
   | some tb => loadD st tb (.pl s n [.dr]) fun a => take st a t m fun x st => retD st r l fun xs => k (x, xs)
   | none => none
  | _ => none
 | _, _, _ => none
/-- the end of a function -/
def fin (rs : List (Ty × Md)) (results : List ResultVar) (st : St) : Option (denL rs) := retD T st rs results fun r => some r

/-- A function's body, run on parameters. -/
noncomputable def runL (L : Nat → ((St → Option R) → St → Option R) → St → Option R) (fin : St → Option R) (keep : Nat → List Nat) (ps : List PT) (body : Code) (x : denPs ps) : Option R :=
 code T Φ L keep 0 body fin (fun _ _ => none) fin ⟨fresh, initL ps 0 x⟩
/-- n rounds at most in each loop -/
noncomputable def runF (keep : Nat → List Nat) (n : Nat) (ps : List PT) (rs : List (Ty × Md)) (results : List ResultVar) (body : Code) (x : denPs ps) : Option (denL rs) :=
 runL T Φ (fun _ F => iter n F) (fin T rs results) keep ps body x

/-- where a loop stands: its body, what an exit and a return mean there, what stands behind -/
structure LC (R : Type) where
 c : Code
 Kx : Nat → St → Option R
 Kr : St → Option R
 K : St → Option R

noncomputable def LC.F (L : Nat → ((St → Option R) → St → Option R) → St → Option R) (keep : Nat → List Nat) (b : Nat) (l : LC R) (G : St → Option R) (st : St) : Option R :=
 match l.c with
 | .rangeFunc f ps ca cb => rfRound T f ps ca cb l.K (code T Φ L keep b ca (fun st => code T Φ L keep b cb (fun st => norm (keep b) st G) (fun _ _ => none) (fun _ => none) st) (fun _ _ => none) (fun _ => none)) st
 | c => code T Φ L keep b c (fun st => norm (keep b) st G) l.Kx l.Kr st

def orLC (a b : Option (LC R)) : Option (LC R) := match a with | some x => some x | none => b
/-- the loop of block `b` in a code, in no other loop of it -/
noncomputable def findL (L : Nat → ((St → Option R) → St → Option R) → St → Option R) (keep : Nat → List Nat) (t : Nat) :
  Nat → Code → (St → Option R) → (Nat → St → Option R) → (St → Option R) → Option (LC R)
 | b, .seq x y, K, Kx, Kr => orLC (findL L keep t b x (code T Φ L keep b y K Kx Kr) Kx Kr) (findL L keep t b y K Kx Kr)
 | b, .cond _ x y, K, Kx, Kr => orLC (findL L keep t b x K Kx Kr) (findL L keep t b y K Kx Kr)
 | _, .block id c, K, Kx, Kr => findL L keep t id c K (fun i st => match Nat.beq i id with | true => K st | false => Kx i st) Kr
 | b, .loop c, K, Kx, Kr => match Nat.beq b t with | true => some ⟨c, Kx, Kr, K⟩ | false => none
 | b, .rangeFunc f ps ca cb, K, Kx, Kr => match Nat.beq b t with | true => some ⟨.rangeFunc f ps ca cb, Kx, Kr, K⟩ | false => none
 | _, _, _, _, _ => none
def theL (x : Option (LC R)) : LC R := match x with | some l => l | none => ⟨.skip, fun _ _ => none, fun _ => none, fun _ => none⟩
end D2

def lookB (l : List (Nat × Bk)) (t : Nat) : Option Bk := match l with
 | [] => none
 | (k, x) :: r => match Nat.beq k t with | true => some x | false => lookB r t
def lookT (l : List (Nat × Ty)) (t : Nat) : Option Ty := match l with
 | [] => none
 | (k, x) :: r => match Nat.beq k t with | true => some x | false => lookT r t
def hasT (l : List Nat) (t : Nat) : Bool := match l with
 | [] => false
 | k :: r => match Nat.beq k t with | true => true | false => hasT r t
def lookM (l : List (Nat × Md)) (t : Nat) : Md := match l with
 | [] => .bor false false
 | (k, x) :: r => match Nat.beq k t with | true => x | false => lookM r t
def lookC (l : List (Nat × Contract)) (t : Nat) : Option Contract := match l with
 | [] => none
 | (k, x) :: r => match Nat.beq k t with | true => some x | false => lookC r t
def lookK (l : List (Nat × List Nat)) (t : Nat) : List Nat := match l with
 | [] => []
 | (k, x) :: r => match Nat.beq k t with | true => x | false => lookK r t

/-- what is read at the end: the slots that are handed back, then the results -/
def resL (io : List Nat) (f : Func) : List ResultVar := io.map .tmp ++ f.results.toList
def codeOf (f : Func) : Code := match f.body with | some c => c | none => .skip
end Go.Ab
