/- Bits and small numbers. -/
import Derived.Test.YtmmlolampgnamaaDoorAxApi
import Derived.Laws.BitsLemmas
namespace Go.Proofs.YtmmlolampgnamaaDoor.Ax

theorem wrap_small (x : Int) (h1 : -9223372036854775808 ≤ x) (h2 : x ≤ 9223372036854775807) : IntKind.wrap .i64 x = x := by
  rw [IntKind.wrap_i64]; omega
theorem wrap_range (x : Int) : -9223372036854775808 ≤ IntKind.wrap .i64 x ∧ IntKind.wrap .i64 x ≤ 9223372036854775807 := by
  rw [IntKind.wrap_i64]; omega
theorem and_mask (n : Int) (k : Nat) (hk : k ≤ 62) : Go.bits .and .i64 n (2 ^ k - 1) = n % 2 ^ k := by
  have hp : (2 : Int) ^ k = ((2 ^ k : Nat) : Int) := by simp
  have hlt : 2 ^ k ≤ 2 ^ 62 := Nat.pow_le_pow_right (by decide) hk
  have hpos : 0 < 2 ^ k := Nat.two_pow_pos k
  have hm : (BitVec.ofInt 64 ((2 : Int) ^ k - 1)).toNat = 2 ^ k - 1 := by
    rw [BitVec.toNat_ofInt, hp]
    have : (((2 ^ k : Nat) : Int) - 1) % ((2 ^ 64 : Nat) : Int) = ((2 ^ k : Nat) : Int) - 1 := by omega
    rw [this]; omega
  have key : (BitVec.ofInt 64 n &&& BitVec.ofInt 64 ((2 : Int) ^ k - 1)).toNat = (n % ((2 ^ 64 : Nat) : Int)).toNat % 2 ^ k := by
    rw [BitVec.toNat_and, BitVec.toNat_ofInt, hm, Nat.and_two_pow_sub_one_eq_mod]
  show IntKind.i64.wrap ((BitVec.ofInt 64 n &&& BitVec.ofInt 64 ((2 : Int) ^ k - 1)).toNat : Nat) = n % 2 ^ k
  have hd : (2 ^ k : Nat) ∣ 2 ^ 64 := Nat.pow_dvd_pow 2 (by omega)
  have h2 : (((n % ((2 ^ 64 : Nat) : Int)).toNat % 2 ^ k : Nat) : Int) = n % 2 ^ k := by
    rw [Int.natCast_emod, Int.toNat_of_nonneg (Int.emod_nonneg _ (by simp)), hp]
    exact Int.emod_emod_of_dvd n (by exact_mod_cast hd)
  rw [key, h2, hp]
  have h3 := Int.emod_nonneg n (show ((2 ^ k : Nat) : Int) ≠ 0 by omega)
  have h4 := Int.emod_lt_of_pos n (show (0 : Int) < ((2 ^ k : Nat) : Int) by omega)
  exact wrap_small _ (by omega) (by omega)
theorem and1 (a : Int) : Go.bits .and .i64 a 1 = a % 2 := and_mask a 1 (by decide)
theorem and3 (a : Int) : Go.bits .and .i64 a 3 = a % 4 := and_mask a 2 (by decide)
theorem and7 (a : Int) : Go.bits .and .i64 a 7 = a % 8 := and_mask a 3 (by decide)
theorem and15 (a : Int) : Go.bits .and .i64 a 15 = a % 16 := and_mask a 4 (by decide)
theorem and31 (a : Int) : Go.bits .and .i64 a 31 = a % 32 := and_mask a 5 (by decide)
theorem and63 (a : Int) : Go.bits .and .i64 a 63 = a % 64 := and_mask a 6 (by decide)
theorem and127 (a : Int) : Go.bits .and .i64 a 127 = a % 128 := and_mask a 7 (by decide)
theorem and255 (a : Int) : Go.bits .and .i64 a 255 = a % 256 := and_mask a 8 (by decide)
end Go.Proofs.YtmmlolampgnamaaDoor.Ax
