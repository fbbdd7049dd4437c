/- A program's bytes: tokens, of which some are addresses of blocks. -/
import Derived.Test.YtokjogplnoeicaaDo
namespace Go.Proofs.Ytokjogplnoeicaa
open Go Go.Ab S

variable {n : Int} {p : List Blk}
abbrev B0 : Blk := ([], 0, 0, 0, ())

inductive Tok where
  | b (x : Int) | lo (i : Int) | hi (i : Int)
/-- a byte, where blocks lie -/
def rend (ad : Int → Int) : Tok → Int
  | .b x => x
  | .lo i => ad i % 256
  | .hi i => ad i / 256
def stepB (s : Step6) : List Int := if s.1 = 1 then [8, s.2.2.2.2.1, 24 + s.2.1] else if s.1 = 2 then [16 + s.2.2.2.2.1, 24 + s.2.1] else [16 + s.2.2.1, 8 * (s.1 + 1) + s.2.2.2.1, 24 + s.2.1]
def testT (b : Blk) : List Tok := if 0 ≤ b.2.1 then [.b (72 + b.2.1), .lo b.2.2.2.1, .hi b.2.2.2.1] else []
def goT (i : Int) (b : Blk) : List Tok := if b.2.2.1 < 0 then [.b 0] else if b.2.2.1 = i + 1 then [] else [.b 64, .lo b.2.2.1, .hi b.2.2.1]
def blockT (i : Int) (b : Blk) : List Tok := (b.1.flatMap stepB).map .b ++ (testT b ++ goT i b)
/-- of blocks from number i on -/
def toks : List Blk → Int → List Tok
  | [], _ => []
  | b :: r, i => blockT i b ++ toks r (i + 1)
/-- where they begin -/
def begs : List Blk → Int → Int → List Int
  | [], _, _ => []
  | b :: r, i, at' => at' :: begs r (i + 1) (at' + (blockT i b).length)

theorem toks_app : ∀ (a c : List Blk) (i : Int), toks (a ++ c) i = toks a i ++ toks c (i + a.length)
  | [], c, i => by simp [toks]
  | b :: a, c, i => by
    rw [List.cons_append, toks, toks_app a c (i + 1), toks, List.append_assoc]
    congr 2
    simp only [List.length_cons]; congr 1; omega
theorem begs_app : ∀ (a c : List Blk) (i at' : Int), begs (a ++ c) i at' = begs a i at' ++ begs c (i + a.length) (at' + (toks a i).length)
  | [], c, i, at' => by simp [toks, begs]
  | b :: a, c, i, at' => by
    rw [List.cons_append, begs, begs_app a c (i + 1), begs, List.cons_append, toks, List.length_append]
    congr 2
    congr 1
    · simp only [List.length_cons]; omega
    · omega
theorem begs_len : ∀ (a : List Blk) (i at' : Int), (begs a i at').length = a.length
  | [], _, _ => rfl
  | b :: a, i, at' => by simp [begs, begs_len a]
/-- the bytes ahead of a block -/
def ahead (p : List Blk) (i : Int) : List Tok := toks (p.take i.toNat) 0
theorem split_at {i : Int} (h0 : 0 ≤ i) (h1 : i < (p.length : Int)) : p = p.take i.toNat ++ p.getD i.toNat B0 :: p.drop (i.toNat + 1) := by
  have hi : i.toNat < p.length := by omega
  conv => lhs; rw [← List.take_append_drop i.toNat p, List.drop_eq_getElem_cons hi]
  simp [List.getD, hi]
theorem take_len {i : Int} (h0 : 0 ≤ i) (h1 : i < (p.length : Int)) : ((p.take i.toNat).length : Int) = i := by
  rw [List.length_take]; omega
theorem toks_split {i : Int} (h0 : 0 ≤ i) (h1 : i < (p.length : Int)) : toks p 0 = ahead p i ++ (blockT i (p.getD i.toNat B0) ++ toks (p.drop (i.toNat + 1)) (i + 1)) := by
  conv => lhs; rw [split_at h0 h1, toks_app, toks]
  rw [take_len h0 h1]
  simp only [Int.zero_add]
  rfl
theorem beg_at {i : Int} (h0 : 0 ≤ i) (h1 : i < (p.length : Int)) : (begs p 0 0).getD i.toNat 0 = ((ahead p i).length : Int) := by
  have hl := take_len h0 h1
  have e : begs p 0 0 = begs (p.take i.toNat) 0 0 ++ ((ahead p i).length : Int) :: begs (p.drop (i.toNat + 1)) (0 + ((p.take i.toNat).length : Int) + 1) (0 + ((toks (p.take i.toNat) 0).length : Int) + (blockT (0 + ((p.take i.toNat).length : Int)) (p.getD i.toNat B0)).length) := by
    conv => lhs; rw [split_at h0 h1, begs_app, begs]
    simp only [Int.zero_add]
    rfl
  rw [e, List.getD_eq_getElem?_getD, List.getElem?_append_right (by rw [begs_len]; omega), begs_len, show i.toNat - (p.take i.toNat).length = 0 by omega]
  rfl

/-! how many there are -/
theorem stepB_len (s : Step6) : (stepB s).length ≤ 3 := by
  unfold stepB; split
  · simp
  · split <;> simp
theorem steps_len : ∀ l : List Step6, (l.flatMap stepB).length ≤ 3 * l.length
  | [] => Nat.le_refl _
  | s :: l => by
    have := steps_len l
    have := stepB_len s
    simp only [List.flatMap_cons, List.length_append, List.length_cons]; omega
theorem testT_len (b : Blk) : (testT b).length ≤ 3 := by unfold testT; split <;> simp
theorem goT_len (i : Int) (b : Blk) : (goT i b).length ≤ 3 := by
  unfold goT; split
  · simp
  · split <;> simp
def lines : List Blk → Nat
  | [] => 0
  | b :: r => b.1.length + lines r
theorem toks_len : ∀ (l : List Blk) (i : Int), (toks l i).length ≤ 3 * lines l + 6 * l.length
  | [], _ => Nat.le_refl _
  | b :: r, i => by
    have := toks_len r (i + 1)
    have h1 := steps_len b.1
    have h2 := testT_len b
    have h3 := goT_len i b
    simp only [toks, blockT, lines, List.length_append, List.length_map, List.length_cons]
    omega
end Go.Proofs.Ytokjogplnoeicaa
