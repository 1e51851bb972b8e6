/- Whole numbers' bits as Go has them, over the natural numbers. Conditions: that the numbers fit their kinds. -/
import Derived.Test.YtinolellciikoaaMem
namespace Go.Vc
open Go
def IntKind.uns : IntKind → Bool | .u8 | .u16 | .u32 | .u64 => true | _ => false
theorem wrap_nat {k : IntKind} (hk : IntKind.uns k = true) {n : Nat} (h : n < 2 ^ k.bits) : k.wrap (n : Int) = n := by
  cases k <;> simp [IntKind.uns] at hk <;> simp only [IntKind.bits] at h <;> simp [IntKind.wrap, IntKind.signed, IntKind.bits] <;> omega
theorem wrap_mod {k : IntKind} (hk : IntKind.uns k = true) (n : Nat) : k.wrap (n : Int) = ((n % 2 ^ k.bits : Nat) : Int) := by
  cases k <;> simp [IntKind.uns] at hk <;> simp [IntKind.wrap, IntKind.signed, IntKind.bits]
theorem ofInt_nat (b n : Nat) : BitVec.ofInt b (n : Int) = BitVec.ofNat b n := BitVec.ofInt_natCast b n
theorem band_nat {k : IntKind} (hk : IntKind.uns k = true) {a b : Nat} (ha : a < 2 ^ k.bits) (hb : b < 2 ^ k.bits) : band k a b = ((a &&& b : Nat) : Int) := by
  unfold band
  rw [ofInt_nat, ofInt_nat, BitVec.toNat_and, BitVec.toNat_ofNat, BitVec.toNat_ofNat, Nat.mod_eq_of_lt ha, Nat.mod_eq_of_lt hb]
  exact wrap_nat hk (Nat.and_lt_two_pow _ hb)
theorem bor_nat {k : IntKind} (hk : IntKind.uns k = true) {a b : Nat} (ha : a < 2 ^ k.bits) (hb : b < 2 ^ k.bits) : bor k a b = ((a ||| b : Nat) : Int) := by
  unfold bor
  rw [ofInt_nat, ofInt_nat, BitVec.toNat_or, BitVec.toNat_ofNat, BitVec.toNat_ofNat, Nat.mod_eq_of_lt ha, Nat.mod_eq_of_lt hb]
  exact wrap_nat hk (Nat.or_lt_two_pow ha hb)
theorem bxor_nat {k : IntKind} (hk : IntKind.uns k = true) {a b : Nat} (ha : a < 2 ^ k.bits) (hb : b < 2 ^ k.bits) : bxor k a b = ((a ^^^ b : Nat) : Int) := by
  unfold bxor
  rw [ofInt_nat, ofInt_nat, BitVec.toNat_xor, BitVec.toNat_ofNat, BitVec.toNat_ofNat, Nat.mod_eq_of_lt ha, Nat.mod_eq_of_lt hb]
  exact wrap_nat hk (Nat.xor_lt_two_pow ha hb)
theorem shr_nat {k : IntKind} {a b : Nat} (hb : b ≤ k.bits) : shr k a b = ((a / 2 ^ b : Nat) : Int) := by
  unfold shr
  rw [Int.toNat_natCast, Nat.min_eq_left hb, Int.fdiv_eq_ediv_of_nonneg _ (by have := Nat.two_pow_pos b; exact_mod_cast Nat.zero_le _)]
  norm_cast
theorem shr_nat_ge {k : IntKind} {a b : Nat} (ha : a < 2 ^ k.bits) (hb : k.bits ≤ b) : shr k a b = 0 := by
  unfold shr
  rw [Int.toNat_natCast, Nat.min_eq_right hb, Int.fdiv_eq_ediv_of_nonneg _ (by have := Nat.two_pow_pos k.bits; exact_mod_cast Nat.zero_le _)]
  have : a / 2 ^ k.bits = 0 := Nat.div_eq_of_lt ha
  exact_mod_cast this
theorem shl_nat {k : IntKind} (hk : IntKind.uns k = true) {a b : Nat} (hb : b ≤ k.bits) : shl k a b = ((a * 2 ^ b % 2 ^ k.bits : Nat) : Int) := by
  unfold shl
  rw [Int.toNat_natCast, Nat.min_eq_left hb]
  have : ((a : Int) * 2 ^ b) = ((a * 2 ^ b : Nat) : Int) := by norm_cast
  rw [this, wrap_mod hk]
theorem toNat_u8 (b : UInt8) : b.toNat < 256 := b.toNat_lt
end Go.Vc
