/- Shifts and bits of any numbers. -/
import Derived.Test.YtffgchcidkapjaaDoorAm24
set_option linter.unusedVariables false
set_option linter.unusedSimpArgs false
namespace Go.GAM
open Go.RowKit

theorem st_shlI {a n : Int} {b : Nat} {K : Int → Prop} (hb : b ≤ 64) (hn : a * 2 ^ b = n) (h0 : -9223372036854775808 ≤ n) (h1 : n < 9223372036854775808) (hk : K n) : pShl .i64 a b K := by
  refine ⟨by omega, ?_⟩
  rw [Int.toNat_natCast, show IntKind.i64.bits = 64 from rfl, Nat.min_eq_left hb, hn, wrap_i64 h0 h1]; exact hk
theorem st_shrI {a n : Int} {b : Nat} {K : Int → Prop} (hb : b ≤ 64) (hn : a / ((2 ^ b : Nat) : Int) = n) (hk : K n) : pShr .i64 a b K := by
  refine ⟨by omega, ?_⟩
  have h2 : ((2 : Int) ^ b) = ((2 ^ b : Nat) : Int) := by simp
  rw [Int.toNat_natCast, show IntKind.i64.bits = 64 from rfl, Nat.min_eq_left hb, h2, Int.fdiv_eq_ediv_of_nonneg _ (Int.natCast_nonneg _), hn]; exact hk

theorem wrap_ofInt (z : Int) : IntKind.wrap .i64 ((BitVec.ofInt 64 z).toNat : Int) = IntKind.wrap .i64 z := by
  have e1 : (2 : Int) ^ 64 = 18446744073709551616 := by decide
  have e2 : (2 : Int) ^ (64 - 1) = 9223372036854775808 := by decide
  have e3 : ((2 ^ 64 : Nat) : Int) = 18446744073709551616 := by decide
  rw [BitVec.toNat_ofInt, e3]
  simp only [IntKind.wrap, IntKind.bits, IntKind.signed, Bool.true_and, decide_eq_true_eq, e1, e2]
  rw [Int.toNat_of_nonneg (by omega), Int.emod_emod_of_dvd _ (Int.dvd_refl _)]

/-- a<<8 | c: no bit stands twice. -/
theorem or_low {a : Int} {c : Nat} (hc : c < 256) (h0 : -36028797018963968 ≤ a) (h1 : a < 36028797018963968) : bitsOp .or .i64 (a * 256) (c : Int) = a * 256 + c := by
  show IntKind.wrap .i64 (((BitVec.ofInt 64 (a * 256)) ||| (BitVec.ofInt 64 (c : Int))).toNat : Int) = _
  have hX : BitVec.ofInt 64 (a * 256) = BitVec.ofInt 64 a <<< 8 := by
    rw [BitVec.ofInt_mul, BitVec.shiftLeft_eq_mul_twoPow]; rfl
  have hand : BitVec.ofInt 64 (a * 256) &&& BitVec.ofInt 64 (c : Int) = 0#64 := by
    rw [hX]
    apply BitVec.eq_of_getLsbD_eq
    intro i hi
    rw [BitVec.getLsbD_and, BitVec.getLsbD_shiftLeft]
    by_cases h8 : i < 8
    · simp [h8]
    · have : (BitVec.ofInt 64 (c : Int)).getLsbD i = false := by
        rw [BitVec.getLsbD, bits_nat (by omega)]
        apply Nat.testBit_lt_two_pow
        have : 2 ^ 8 ≤ 2 ^ i := Nat.pow_le_pow_right (by omega) (by omega)
        omega
      rw [this]; simp
  rw [← BitVec.add_eq_or_of_and_eq_zero _ _ hand, ← BitVec.ofInt_add, wrap_ofInt, wrap_i64 (by omega) (by omega)]

theorem wrap_u8_mod (z : Int) : IntKind.wrap .u8 z = ((UInt8.ofNat (z % 256).toNat).toNat : Int) := by
  rw [UInt8.toNat_ofNat']
  have : IntKind.wrap .u8 z = z % 256 := by
    show z.emod (2 ^ 8) = _
    rfl
  rw [this]; omega
theorem wrap_i8 (c : UInt8) : IntKind.wrap .i8 (c.toNat : Int) = if c.toNat < 128 then (c.toNat : Int) else (c.toNat : Int) - 256 := by
  have hc := c.toNat_lt
  have e1 : (2 : Int) ^ 8 = 256 := by decide
  have e2 : (2 : Int) ^ (8 - 1) = 128 := by decide
  simp only [IntKind.wrap, IntKind.bits, IntKind.signed, Bool.true_and, decide_eq_true_eq, e1, e2]
  split <;> split <;> omega

end Go.GAM
