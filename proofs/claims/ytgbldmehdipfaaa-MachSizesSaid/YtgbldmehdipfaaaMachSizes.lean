/- mach.Size and the document's answer agree. -/
import Derived.Test.YtgbldmehdipfaaaFn1
import Derived.Test.YtgbldmehdipfaaaAbLaw
namespace Go.Proofs.Ytgbldmehdipfaaa
open Go Go.Ab S

theorem size_all : ∀ n : Fin 256, law_MachSizes_f 0 ((n.val : Nat) : Int) = some (true, ()) := by decide +kernel

theorem size_int (b : Int) (h0 : 0 ≤ b) (h1 : b < 256) : law_MachSizes_f 0 b = some (true, ()) := by
  have := size_all ⟨b.toNat, by omega⟩
  rwa [show ((b.toNat : Nat) : Int) = b by omega] at this

theorem machSizes_law (x : denPs (lawPs [.int .u8])) (h : wfPs [.int .u8] x) : ∃ n, law_MachSizes_F n x = some (true, ()) := by
  obtain ⟨b, _⟩ := x
  obtain ⟨⟨h1, h2⟩, _⟩ := h
  have e1 : IntKind.u8.min = 0 := by decide
  have e2 : IntKind.u8.max = 255 := by decide
  rw [e1] at h1
  rw [e2] at h2
  exact ⟨0, size_int b h1 (Int.lt_of_le_of_lt h2 (by decide))⟩
end Go.Proofs.Ytgbldmehdipfaaa
