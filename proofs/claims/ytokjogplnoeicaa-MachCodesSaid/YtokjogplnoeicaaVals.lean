/- Operations of values. -/
import Derived.Test.YtokjogplnoeicaaFn1
import Derived.Test.YtokjogplnoeicaaLib
namespace Go.Proofs.Ytokjogplnoeicaa
open Go Go.Ab S

theorem and255 (x : Int) : IntKind.i64.wrap ((BitVec.ofInt IntKind.i64.bits x &&& BitVec.ofInt IntKind.i64.bits 255).toNat : Int) = x % 256 := by
  have h1 : (BitVec.ofInt IntKind.i64.bits x &&& BitVec.ofInt IntKind.i64.bits 255).toNat = (BitVec.ofInt 64 x).toNat % 256 := by
    show (BitVec.ofInt 64 x &&& BitVec.ofInt 64 255).toNat = _
    rw [BitVec.toNat_and, show (BitVec.ofInt 64 255).toNat = 2 ^ 8 - 1 from rfl, Nat.and_two_pow_sub_one_eq_mod]
  rw [h1, BitVec.toNat_ofInt]
  have h2 : ((2 ^ 64 : Nat) : Int) = 18446744073709551616 := by decide
  rw [h2]
  have h3 : (((x % 18446744073709551616).toNat % 256 : Nat) : Int) = x % 256 := by omega
  rw [h3]
  exact Go.IntWalk.i64_in _ (by omega)

/-- an operation of two values -/
def opV (op a b : Int) : Int := if op = 3 then (a + b) % 256 else if op = 4 then (a - b) % 256 else if op = 5 then (a * b) % 256 else if a < b then 1 else 0
/-- a value -/
def isV (x : Int) : Prop := 0 ≤ x ∧ x ≤ 255
theorem opV_isV (op a b : Int) : isV (opV op a b) := by
  unfold opV isV
  split
  · omega
  · split
    · omega
    · split
      · generalize a * b = c; omega
      · split <;> omega

theorem mul_small {a b : Int} (ha : isV a) (hb : isV b) : 0 ≤ a * b ∧ a * b ≤ 65025 := by
  obtain ⟨h1, h2⟩ := ha
  obtain ⟨h3, h4⟩ := hb
  refine ⟨Int.mul_nonneg h1 h3, ?_⟩
  have := Int.mul_le_mul h2 h4 h3 (by omega : (0 : Int) ≤ 255)
  omega

theorem do_F {nf : Nat} {op a b : Int} (ha : isV a) (hb : isV b) : term_Do_f nf op a b = some (opV op a b, ()) := by
  have h1 := mul_small ha hb
  obtain ⟨a0, a1⟩ := ha
  obtain ⟨b0, b1⟩ := hb
  simp only [term_Do_f, term_Do_p, and255, Go.IntWalk.i64_in (a + b) (by omega), Go.IntWalk.i64_in (a - b) (by omega), Go.IntWalk.i64_in (a * b) (by omega), opV]
  by_cases o3 : op = 3
  · simp [o3]
  · by_cases o4 : op = 4
    · simp [o4]
    · by_cases o5 : op = 5
      · simp [o5]
      · by_cases h : a < b <;> simp [o3, o4, o5, beq_f o3, beq_f o4, beq_f o5, h]

theorem op_F {nf : Nat} {op a b : Int} (h3 : 3 ≤ op) (h6 : op ≤ 6) (ha : isV a) (hb : isV b) : ref_Op_f nf op a b = some (opV op a b, ()) := by
  have h1 := mul_small ha hb
  obtain ⟨a0, a1⟩ := ha
  obtain ⟨b0, b1⟩ := hb
  simp only [ref_Op_f, ref_Op_p, Go.IntWalk.i64_in (a + b) (by omega), Go.IntWalk.i64_in (a - b) (by omega), Go.IntWalk.i64_in (a * b) (by omega), Go.IntWalk.i64_in (a - b + 256) (by omega), opV]
  rw [Int.tmod_eq_emod_of_nonneg (a := a + b) (by omega), Int.tmod_eq_emod_of_nonneg (a := a - b + 256) (by omega), Int.tmod_eq_emod_of_nonneg (a := a * b) (by omega)]
  by_cases o3 : op = 3
  · simp [o3]
  · by_cases o4 : op = 4
    · simp [o4]
    · by_cases o5 : op = 5
      · simp [o5]
      · have o6 : op = 6 := by omega
        subst o6
        by_cases h : a < b <;> simp [h]

end Go.Proofs.Ytokjogplnoeicaa
