import Derived.Test.YtbbjljhbiaeadaaMem6
set_option linter.unusedSimpArgs false
set_option linter.unusedVariables false
namespace Go.Bk
theorem ofInt_nat (n a : Nat) : (BitVec.ofInt n (a : Int)) = BitVec.ofNat n a := by simp
theorem bv_xor (n a b : Nat) : (BitVec.ofInt n (a : Int) ^^^ BitVec.ofInt n (b : Int)).toNat = a % 2 ^ n ^^^ b % 2 ^ n := by
  rw [ofInt_nat, ofInt_nat, BitVec.toNat_xor, BitVec.toNat_ofNat, BitVec.toNat_ofNat]
theorem bv_and (n a b : Nat) : (BitVec.ofInt n (a : Int) &&& BitVec.ofInt n (b : Int)).toNat = a % 2 ^ n &&& b % 2 ^ n := by
  rw [ofInt_nat, ofInt_nat, BitVec.toNat_and, BitVec.toNat_ofNat, BitVec.toNat_ofNat]
theorem bv_or (n a b : Nat) : (BitVec.ofInt n (a : Int) ||| BitVec.ofInt n (b : Int)).toNat = a % 2 ^ n ||| b % 2 ^ n := by
  rw [ofInt_nat, ofInt_nat, BitVec.toNat_or, BitVec.toNat_ofNat, BitVec.toNat_ofNat]
theorem st_xor32 {a b : Nat} (ha : a < 4294967296) (hb : b < 4294967296) : binV .xor (.int .u32 a) (.int .u32 b) = some (.int .u32 ((a ^^^ b : Nat) : Int)) := by
  have hx : a ^^^ b < 2 ^ 32 := Nat.xor_lt_two_pow (by omega) (by omega)
  have h : binV .xor (.int .u32 a) (.int .u32 b) = some (.int .u32 (IntKind.u32.wrap ((BitVec.ofInt 32 (a : Int) ^^^ BitVec.ofInt 32 (b : Int)).toNat : Int))) := rfl
  rw [h, bv_xor, wrap_u32, Nat.mod_eq_of_lt (a := a) (by omega), Nat.mod_eq_of_lt (a := b) (by omega), Nat.mod_eq_of_lt (by omega)]
theorem st_and32 {a b : Nat} (ha : a < 4294967296) (hb : b < 4294967296) : binV .and (.int .u32 a) (.int .u32 b) = some (.int .u32 ((a &&& b : Nat) : Int)) := by
  have hx : a &&& b ≤ a := Nat.and_le_left
  have h : binV .and (.int .u32 a) (.int .u32 b) = some (.int .u32 (IntKind.u32.wrap ((BitVec.ofInt 32 (a : Int) &&& BitVec.ofInt 32 (b : Int)).toNat : Int))) := rfl
  rw [h, bv_and, wrap_u32, Nat.mod_eq_of_lt (a := a) (by omega), Nat.mod_eq_of_lt (a := b) (by omega), Nat.mod_eq_of_lt (by omega)]
end Go.Bk
