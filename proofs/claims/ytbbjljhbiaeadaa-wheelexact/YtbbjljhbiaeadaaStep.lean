/- Steps: what each pure primitive tells of values that are known. -/
import Derived.Test.YtbbjljhbiaeadaaMem3
set_option linter.unusedSimpArgs false
set_option linter.unusedVariables false
namespace Go.Bk
open Go.RowKit
section
variable {k : IntKind} {a b : Int}
theorem st_add : binV .add (.int k a) (.int k b) = some (.int k (k.wrap (a + b))) := by simp [binV, intV]
theorem st_sub : binV .sub (.int k a) (.int k b) = some (.int k (k.wrap (a - b))) := by simp [binV, intV]
theorem st_mul : binV .mul (.int k a) (.int k b) = some (.int k (k.wrap (a * b))) := by simp [binV, intV]
theorem st_quo (h : b ≠ 0) : binV .quo (.int k a) (.int k b) = some (.int k (k.wrap (a.tdiv b))) := by simp [binV, intV, h]
theorem st_rem (h : b ≠ 0) : binV .rem (.int k a) (.int k b) = some (.int k (a.tmod b)) := by simp [binV, intV, h]
theorem st_eql : binV .eql (.int k a) (.int k b) = some (.bool (decide (a = b))) := by simp [binV, intV]; rfl
theorem st_neq : binV .neq (.int k a) (.int k b) = some (.bool (!decide (a = b))) := by simp [binV, intV, bne_dec]
theorem st_lss : binV .lss (.int k a) (.int k b) = some (.bool (decide (a < b))) := by simp [binV, intV]
theorem st_leq : binV .leq (.int k a) (.int k b) = some (.bool (decide (a ≤ b))) := by simp [binV, intV]
theorem st_gtr : binV .gtr (.int k a) (.int k b) = some (.bool (decide (b < a))) := by simp [binV, intV]
theorem st_geq : binV .geq (.int k a) (.int k b) = some (.bool (decide (b ≤ a))) := by simp [binV, intV]
end
theorem st_seq {a b : ByteArray} : binV .eql (.string a) (.string b) = some (.bool (a.toList == b.toList)) := rfl
theorem st_sneq {a b : ByteArray} : binV .neq (.string a) (.string b) = some (.bool (!(a.toList == b.toList))) := rfl
theorem st_beq {a b : Bool} : boolV .eql (.bool a) (.bool b) = some (.bool (a == b)) := rfl
theorem st_bneq {a b : Bool} : boolV .neq (.bool a) (.bool b) = some (.bool (!(a == b))) := rfl
theorem st_not {a : Bool} : unV .not (.bool a) = some (.bool !a) := rfl
theorem st_neg {k : IntKind} {a : Int} : unV .neg (.int k a) = some (.int k (k.wrap (0 - a))) := rfl
theorem st_lenS {a : Option Addr} {n c : Nat} : lenS (.slice a n c) = some (.int .i64 n) := rfl
theorem st_capS {a : Option Addr} {n c : Nat} : capS (.slice a n c) = some (.int .i64 c) := rfl
theorem st_lenT {s : ByteArray} : lenT (.string s) = some (.int .i64 s.size) := rfl
theorem st_fldA {a : Addr} {o : Nat} : fldA o (.pointer (some a)) = some (.pointer (some (a.add o))) := rfl
theorem st_conv {k k' : IntKind} {a : Int} : convV k (.int k' a) = some (.int k (k.wrap a)) := rfl
theorem st_pick {b : Bool} {x y : Value} : pickV (.bool b) x y = some (bif b then x else y) := rfl
theorem st_ext0 {a : Value} {l : List Value} : extV (.tuple ⟨a :: l⟩) 0 = some a := rfl
theorem st_ext1 {a b : Value} {l : List Value} : extV (.tuple ⟨a :: b :: l⟩) 1 = some b := rfl
theorem st_ext2 {a b c : Value} {l : List Value} : extV (.tuple ⟨a :: b :: c :: l⟩) 2 = some c := rfl
theorem st_ext3 {a b c d : Value} {l : List Value} : extV (.tuple ⟨a :: b :: c :: d :: l⟩) 3 = some d := rfl
theorem st_nilS {a : Option Addr} {n c n' c' : Nat} : isNilS (.slice a n c) (.slice none n' c') = some a.isNone := by cases a <;> rfl
theorem st_nilP {a : Option Addr} : isNilP (.pointer a) (.pointer none) = some a.isNone := by cases a <;> rfl
theorem st_nilF : isNilF .nilFunc .nilFunc = some true := rfl
theorem st_nilE {b : Bool} : nilV .eql (some b) = some (.bool b) := rfl
theorem st_nilN {b : Bool} : nilV .neq (some b) = some (.bool !b) := rfl
theorem st_none {α : Type} : (none : Option α).isNone = true := rfl
theorem st_some {α : Type} {a : α} : (some a).isNone = false := rfl
theorem st_true {A B : Prop} : pIf (.bool true) A B = A := by apply propext; exact ⟨fun h => h.2.1 rfl, pIf_true⟩
theorem st_false {A B : Prop} : pIf (.bool false) A B = B := by apply propext; exact ⟨fun h => h.2.2 rfl, pIf_false⟩
theorem wrap_u8 (n : Nat) : IntKind.u8.wrap (n : Int) = ((n % 256 : Nat) : Int) := by
  simp [IntKind.wrap, IntKind.signed, IntKind.bits]
theorem wrap_u64 (n : Nat) : IntKind.u64.wrap (n : Int) = ((n % 18446744073709551616 : Nat) : Int) := by
  simp [IntKind.wrap, IntKind.signed, IntKind.bits]
theorem wrap_u32 (n : Nat) : IntKind.u32.wrap (n : Int) = ((n % 4294967296 : Nat) : Int) := by
  simp [IntKind.wrap, IntKind.signed, IntKind.bits]
theorem st_shr {k k' : IntKind} {a : Nat} {b : Nat} (hb : b ≤ k.bits) : binV .shr (.int k a) (.int k' b) = some (.int k ((a / 2 ^ b : Nat) : Int)) := by
  simp only [binV]
  rw [if_neg (by omega), Int.toNat_natCast, Nat.min_eq_left hb, Int.fdiv_eq_ediv_of_nonneg _ (by exact Int.le_of_lt (Int.pow_pos (by omega)))]
  simp
theorem ld1r {w : World} {ad : Addr} {u : Value} (h : w.cell? ad = some u) (sz : Nat) : ldV false sz w (.pointer (some ad)) = some u := h
theorem pSC_or_t {b : Bool} {w : World} {A : (Value → World → Prop) → Prop} {R : Value → World → Prop} (hb : b = true) (h : R (.bool true) w) : pSC false (.bool b) w A R := by
  subst hb; exact pSC_or true (fun h => by cases h) h
theorem pSC_or_f {b : Bool} {w : World} {A : (Value → World → Prop) → Prop} {R : Value → World → Prop} (hb : b = false) (h : A R) : pSC false (.bool b) w A R := by
  subst hb; rw [pSC_bool]; exact ⟨R, fun _ => h, fun h => (by cases h), fun _ _ h => h⟩
theorem pSC_and_t {b : Bool} {w : World} {A : (Value → World → Prop) → Prop} {R : Value → World → Prop} (hb : b = true) (h : A R) : pSC true (.bool b) w A R := by
  subst hb; rw [pSC_bool]; exact ⟨R, fun _ => h, fun h => (by cases h), fun _ _ h => h⟩
theorem pSC_and_f {b : Bool} {w : World} {A : (Value → World → Prop) → Prop} {R : Value → World → Prop} (hb : b = false) (h : R (.bool false) w) : pSC true (.bool b) w A R := by
  subst hb; exact pSC_and false (fun h => by cases h) h
end Go.Bk
