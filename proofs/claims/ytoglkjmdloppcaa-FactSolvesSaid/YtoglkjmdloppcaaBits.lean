/- The document's words on bits. -/
import Derived.Test.YtoglkjmdloppcaaFn1
import Derived.Test.YtoglkjmdloppcaaLib
namespace Go.Proofs.Ytoglkjmdloppcaa
open Go Go.Ab S

theorem bit_F (nf : Nat) {w i : Int} (hw : W32 w) (h0 : 0 ≤ i) : ref_Bit_f nf w i = some (bt w i.toNat, ()) := by
  simp only [ref_Bit_f, ref_Bit_p]
  by_cases h : i < 32
  · have h1 := and_one hw h0 h
    unfold and32 at h1
    rw [Go.IntWalk.u64_in i ⟨h0, by omega⟩]
    simp only [ge_iff_le, h0, h, decide_true, cond_true]
    rw [h1]
  · have : bt w i.toNat = false := hw.bt (by omega)
    simp [h0, h, this]

theorem fits_F (nf : Nat) {n s : Int} (h0 : 0 ≤ n) (h1 : n < 32) : ref_Fits_f nf n s = some (decide (s < ((2 ^ n.toNat : Nat) : Int)), ()) := by
  simp only [ref_Fits_f, ref_Fits_p]
  have h2 : ¬ n ≥ 32 := by omega
  rw [Go.IntWalk.u64_in n ⟨h0, by omega⟩, shl_one h0 h1]
  simp [h2, h0]
end Go.Proofs.Ytoglkjmdloppcaa
