/- bits.OnesCount32 counts the bits of a word. -/
import Derived.Test.YtoglkjmdloppcaaFn3
import Derived.Test.YtoglkjmdloppcaaLib
namespace Go.Proofs.Ytoglkjmdloppcaa
open Go Go.Ab S

def pop8 : List Int := [0, 1, 1, 2, 1, 2, 2, 3, 1, 2, 2, 3, 2, 3, 3, 4, 1, 2, 2, 3, 2, 3, 3, 4, 2, 3, 3, 4, 3, 4, 4, 5, 1, 2, 2, 3, 2, 3, 3, 4, 2, 3, 3, 4, 3, 4, 4, 5, 2, 3, 3, 4, 3, 4, 4, 5, 3, 4, 4, 5, 4, 5, 5, 6, 1, 2, 2, 3, 2, 3, 3, 4, 2, 3, 3, 4, 3, 4, 4, 5, 2, 3, 3, 4, 3, 4, 4, 5, 3, 4, 4, 5, 4, 5, 5, 6, 2, 3, 3, 4, 3, 4, 4, 5, 3, 4, 4, 5, 4, 5, 5, 6, 3, 4, 4, 5, 4, 5, 5, 6, 4, 5, 5, 6, 5, 6, 6, 7, 1, 2, 2, 3, 2, 3, 3, 4, 2, 3, 3, 4, 3, 4, 4, 5, 2, 3, 3, 4, 3, 4, 4, 5, 3, 4, 4, 5, 4, 5, 5, 6, 2, 3, 3, 4, 3, 4, 4, 5, 3, 4, 4, 5, 4, 5, 5, 6, 3, 4, 4, 5, 4, 5, 5, 6, 4, 5, 5, 6, 5, 6, 6, 7, 2, 3, 3, 4, 3, 4, 4, 5, 3, 4, 4, 5, 4, 5, 5, 6, 3, 4, 4, 5, 4, 5, 5, 6, 4, 5, 5, 6, 5, 6, 6, 7, 3, 4, 4, 5, 4, 5, 5, 6, 4, 5, 5, 6, 5, 6, 6, 7, 4, 5, 5, 6, 5, 6, 6, 7, 5, 6, 6, 7, 6, 7, 7, 8]

theorem cnt_add (p : Nat → Bool) (a : Nat) : ∀ b, cnt p (a + b) = cnt p a + cnt (fun k => p (a + k)) b
  | 0 => rfl
  | b + 1 => by
    rw [← Nat.add_assoc]
    simp only [cnt]
    rw [cnt_add p a b, Nat.add_assoc]

theorem pop8_all : ∀ b : Fin 256, pop8.getD b.val 0 = ((cnt (fun k => b.val.testBit k) 8 : Nat) : Int) := by decide +kernel
theorem pop8_ok {b : Int} (hb : W32 b) (h : ∀ k, 8 ≤ k → bt b k = false) : inb b 256 = true ∧ pop8.getD b.toNat 0 = ((cnt (bt b) 8 : Nat) : Int) := by
  have h1 : b < ((2 ^ 8 : Nat) : Int) := hb.small h
  have h0 := hb.1
  exact ⟨inb_ok h0 (by simpa using h1), pop8_all ⟨b.toNat, by simp at h1; omega⟩⟩

theorem bt_255 (k : Nat) : bt 255 k = decide (k < 8) := by
  show (255 : Nat).testBit k = _
  exact Nat.testBit_two_pow_sub_one 8 k
theorem W32_255 : W32 255 := ⟨by decide, by decide⟩
theorem u8_id {x : Int} (h0 : 0 ≤ x) (h1 : x < 256) : IntKind.u8.wrap x = x := by
  have : ∀ n : Fin 256, IntKind.u8.wrap ((n.val : Nat) : Int) = ((n.val : Nat) : Int) := by decide +kernel
  have := this ⟨x.toNat, by omega⟩
  rwa [show ((x.toNat : Nat) : Int) = x by omega] at this
theorem i64_small {x : Int} (h0 : 0 ≤ x) (h1 : x < 256) : IntKind.i64.wrap x = x := by
  have : ∀ n : Fin 256, IntKind.i64.wrap ((n.val : Nat) : Int) = ((n.val : Nat) : Int) := by decide +kernel
  have := this ⟨x.toNat, by omega⟩
  rwa [show ((x.toNat : Nat) : Int) = x by omega] at this

def onesE (x : Int) : Option (Int × Unit) :=
    (bif inb (shrI .u32 x 24) 256 then
      bif inb (and32 (shrI .u32 x 16) 255) 256 then
        bif inb (and32 (shrI .u32 x 8) 255) 256 then
          bif inb (and32 x 255) 256 then
            some ((IntKind.i64.wrap (IntKind.u8.wrap (IntKind.u8.wrap (IntKind.u8.wrap (pop8.getD (shrI .u32 x 24).toNat 0 + pop8.getD (and32 (shrI .u32 x 16) 255).toNat 0) + pop8.getD (and32 (shrI .u32 x 8) 255).toNat 0) + pop8.getD (and32 x 255).toNat 0)), ()))
          else none
        else none
      else none
    else none)

theorem ones_aux {x : Int} (hx : W32 x) : onesE x = some (((cnt (bt x) 32 : Nat) : Int), ()) := by
  unfold onesE
  have w24 := shr_w hx (show (0 : Int) ≤ 24 by decide) (by decide)
  have w16 := shr_w hx (show (0 : Int) ≤ 16 by decide) (by decide)
  have w8 := shr_w hx (show (0 : Int) ≤ 8 by decide) (by decide)
  have b24 := shr_bt hx (show (0 : Int) ≤ 24 by decide) (by decide)
  have b16 := shr_bt hx (show (0 : Int) ≤ 16 by decide) (by decide)
  have b8 := shr_bt hx (show (0 : Int) ≤ 8 by decide) (by decide)
  obtain ⟨i1, e1⟩ := pop8_ok w24 fun k hk => by rw [b24]; exact hx.bt (by simp; omega)
  obtain ⟨i2, e2⟩ := pop8_ok (and32_w (shrI .u32 x 16) 255) fun k hk => by rw [and32_bt w16 W32_255, bt_255, decide_eq_false (by omega), Bool.and_false]
  obtain ⟨i3, e3⟩ := pop8_ok (and32_w (shrI .u32 x 8) 255) fun k hk => by rw [and32_bt w8 W32_255, bt_255, decide_eq_false (by omega), Bool.and_false]
  obtain ⟨i4, e4⟩ := pop8_ok (and32_w x 255) fun k hk => by rw [and32_bt hx W32_255, bt_255, decide_eq_false (by omega), Bool.and_false]
  have f1 : cnt (bt (shrI .u32 x 24)) 8 = cnt (fun k => bt x (24 + k)) 8 := cnt_congr fun k hk => b24 k
  have f2 : cnt (bt (and32 (shrI .u32 x 16) 255)) 8 = cnt (fun k => bt x (16 + k)) 8 := cnt_congr fun k hk => by rw [and32_bt w16 W32_255, bt_255, decide_eq_true hk, Bool.and_true]; exact b16 k
  have f3 : cnt (bt (and32 (shrI .u32 x 8) 255)) 8 = cnt (fun k => bt x (8 + k)) 8 := cnt_congr fun k hk => by rw [and32_bt w8 W32_255, bt_255, decide_eq_true hk, Bool.and_true]; exact b8 k
  have f4 : cnt (bt (and32 x 255)) 8 = cnt (bt x) 8 := cnt_congr fun k hk => by rw [and32_bt hx W32_255, bt_255, decide_eq_true hk, Bool.and_true]
  rw [i1, i2, i3, i4, e1, e2, e3, e4, f1, f2, f3, f4]
  have s1 := cnt_add (bt x) 8 8
  have s2 := cnt_add (bt x) 16 8
  have s3 := cnt_add (bt x) 24 8
  have n1 := cnt_n (bt x) 8
  have n2 := cnt_n (fun k => bt x (8 + k)) 8
  have n3 := cnt_n (fun k => bt x (16 + k)) 8
  have n4 := cnt_n (fun k => bt x (24 + k)) 8
  rw [show (8 : Nat) + 8 = 16 from rfl] at s1
  rw [show (16 : Nat) + 8 = 24 from rfl] at s2
  rw [show (24 : Nat) + 8 = 32 from rfl] at s3
  simp only [cond_true]
  generalize cnt (fun k => bt x (24 + k)) 8 = c4 at *
  generalize cnt (fun k => bt x (16 + k)) 8 = c3 at *
  generalize cnt (fun k => bt x (8 + k)) 8 = c2 at *
  generalize cnt (bt x) 8 = c1 at *
  rw [u8_id (x := (c4 : Int) + (c3 : Int)) (by omega) (by omega), u8_id (x := (c4 : Int) + (c3 : Int) + (c2 : Int)) (by omega) (by omega), u8_id (x := (c4 : Int) + (c3 : Int) + (c2 : Int) + (c1 : Int)) (by omega) (by omega), i64_small (by omega) (by omega)]
  have : (c4 : Int) + (c3 : Int) + (c2 : Int) + (c1 : Int) = ((cnt (bt x) 32 : Nat) : Int) := by omega
  rw [this]

theorem ones_eq (nf : Nat) (x : Int) : bits_OnesCount32_f nf x = onesE x := by kernel_rfl
theorem ones_F (nf : Nat) {x : Int} (hx : W32 x) : bits_OnesCount32_f nf x = some (((cnt (bt x) 32 : Nat) : Int), ()) := (ones_eq nf x).trans (ones_aux hx)
end Go.Proofs.Ytoglkjmdloppcaa
