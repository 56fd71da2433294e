/- script: check sums, the program's and the document's: the same. -/
import Derived.Test.YtcghhhjklihpkaaSbC
import Derived.Test.YtcghhhjklihpkaaBits
set_option linter.unusedSimpArgs false
set_option linter.unusedVariables false
namespace Go.Proofs.Ytcghhhjklihpkaa
open Go.Bk Go.RowKit

def poly : Nat := 3988292384
def crcA (s : Nat) : Nat := (s / 2) ^^^ (poly * (s % 2))
def crcB (s b : Nat) : Nat := if s % 2 ≠ b then (s / 2) ^^^ poly else s / 2
theorem crc_step (s c : Nat) : crcA (s ^^^ c) = crcB s (c % 2) ^^^ (c / 2) := by
  have h1 : (s ^^^ c) / 2 = s / 2 ^^^ c / 2 := by
    have := Nat.shiftRight_xor_distrib (a := s) (b := c) (i := 1)
    simpa [Nat.shiftRight_eq_div_pow] using this
  have h2 : (s ^^^ c) % 2 = if s % 2 ≠ c % 2 then 1 else 0 := by
    have h := Nat.xor_mod_two_eq_one (a := s) (b := c)
    split
    · have : (s ^^^ c) % 2 = 1 := h.2 (by omega)
      exact this
    · have : ¬ (s ^^^ c) % 2 = 1 := fun h' => (h.1 h') (by omega)
      omega
  unfold crcA crcB
  rw [h1, h2]
  split
  · rw [Nat.mul_one, Nat.xor_assoc, Nat.xor_assoc, Nat.xor_comm poly]
  · rw [Nat.mul_zero, Nat.xor_zero]
/-- k bits of a byte, the document's way. -/
def bitsB (s c : Nat) : Nat → Nat
  | 0 => s
  | k + 1 => crcB (bitsB s c k) (c / 2 ^ k % 2)
def bitsA (s : Nat) : Nat → Nat
  | 0 => s
  | k + 1 => crcA (bitsA s k)
theorem bits_same (s c k : Nat) : bitsA (s ^^^ c) k = bitsB s c k ^^^ (c / 2 ^ k) := by
  induction k with
  | zero => simp [bitsA, bitsB]
  | succ k ih =>
    rw [bitsA, bitsB, ih, crc_step, Nat.div_div_eq_div_mul, ← Nat.pow_succ]
/-- The document's sum behind these bytes. -/
def sumB (l : List Nat) : Nat := l.foldl (fun s c => bitsB s c 8) 4294967295
theorem byte_same (s c : Nat) (hc : c < 256) : bitsA (s ^^^ c) 8 = bitsB s c 8 := by
  rw [bits_same, Nat.div_eq_of_lt (by simpa using hc), Nat.xor_zero]
theorem crcA_lt {s : Nat} (h : s < 4294967296) : crcA s < 4294967296 := by
  have : (s / 2) ^^^ (poly * (s % 2)) < 2 ^ 32 := Nat.xor_lt_two_pow (by omega) (by unfold poly; rcases Nat.mod_two_eq_zero_or_one s with h | h <;> rw [h] <;> omega)
  exact this
theorem crcB_lt {s b : Nat} (h : s < 4294967296) : crcB s b < 4294967296 := by
  unfold crcB
  split
  · have : (s / 2) ^^^ poly < 2 ^ 32 := Nat.xor_lt_two_pow (by omega) (by unfold poly; omega)
    exact this
  · omega
theorem bitsA_lt {s : Nat} (h : s < 4294967296) (k : Nat) : bitsA s k < 4294967296 := by
  induction k with
  | zero => exact h
  | succ k ih => exact crcA_lt ih
theorem bitsB_lt {s c : Nat} (h : s < 4294967296) (k : Nat) : bitsB s c k < 4294967296 := by
  induction k with
  | zero => exact h
  | succ k ih => exact crcB_lt ih
end Go.Proofs.Ytcghhhjklihpkaa
