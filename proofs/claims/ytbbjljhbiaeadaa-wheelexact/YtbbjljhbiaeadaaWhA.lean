/- wheel: bits, levels, slots (numbers alone). -/
import Derived.Test.YtbbjljhbiaeadaaMap
import Derived.Test.YtbbjljhbiaeadaaF
set_option linter.unusedSimpArgs false
set_option linter.unusedVariables false
namespace Go.Proofs.Ytbbjljhbiaeadaa
open Go.Bk Go.RowKit

/-- bits.Len: what it tells. -/
def IsLen (x n : Nat) : Prop := x < 2 ^ n ∧ (x = 0 → n = 0) ∧ (x ≠ 0 → 1 ≤ n ∧ 2 ^ (n - 1) ≤ x)

def tab8 : ByteArray := ⟨#[0, 1, 2, 2, 3, 3, 3, 3, 4, 4, 4, 4, 4, 4, 4, 4, 5, 5, 5, 5, 5, 5, 5, 5, 5, 5, 5, 5, 5, 5, 5, 5, 6, 6, 6, 6, 6, 6, 6, 6, 6, 6, 6, 6, 6, 6, 6, 6, 6, 6, 6, 6, 6, 6, 6, 6, 6, 6, 6, 6, 6, 6, 6, 6, 7, 7, 7, 7, 7, 7, 7, 7, 7, 7, 7, 7, 7, 7, 7, 7, 7, 7, 7, 7, 7, 7, 7, 7, 7, 7, 7, 7, 7, 7, 7, 7, 7, 7, 7, 7, 7, 7, 7, 7, 7, 7, 7, 7, 7, 7, 7, 7, 7, 7, 7, 7, 7, 7, 7, 7, 7, 7, 7, 7, 7, 7, 7, 7, 8, 8, 8, 8, 8, 8, 8, 8, 8, 8, 8, 8, 8, 8, 8, 8, 8, 8, 8, 8, 8, 8, 8, 8, 8, 8, 8, 8, 8, 8, 8, 8, 8, 8, 8, 8, 8, 8, 8, 8, 8, 8, 8, 8, 8, 8, 8, 8, 8, 8, 8, 8, 8, 8, 8, 8, 8, 8, 8, 8, 8, 8, 8, 8, 8, 8, 8, 8, 8, 8, 8, 8, 8, 8, 8, 8, 8, 8, 8, 8, 8, 8, 8, 8, 8, 8, 8, 8, 8, 8, 8, 8, 8, 8, 8, 8, 8, 8, 8, 8, 8, 8, 8, 8, 8, 8, 8, 8, 8, 8, 8, 8, 8, 8, 8, 8, 8, 8, 8, 8, 8, 8, 8, 8, 8, 8, 8, 8]⟩
def bl (i : Nat) : Nat := if i = 0 then 0 else Nat.log2 i + 1
theorem tab8_all : ∀ i : Fin 256, (tab8[i.1]?).map UInt8.toNat = some (bl i.1) := by decide +kernel
theorem bl_all : ∀ i : Fin 256, bl i.1 ≤ 8 ∧ i.1 < 2 ^ bl i.1 ∧ (i.1 ≠ 0 → 1 ≤ bl i.1 ∧ 2 ^ (bl i.1 - 1) ≤ i.1) := by decide +kernel
theorem len8_all (i : Nat) (h : i < 256) : ∃ b : Nat, idxT (.string tab8) (.int .u8 (i : Int)) = some (.int .u8 (b : Int)) ∧ b ≤ 8 ∧ i < 2 ^ b ∧ (i = 0 → b = 0) ∧ (i ≠ 0 → 1 ≤ b ∧ 2 ^ (b - 1) ≤ i) := by
  have h1 := tab8_all ⟨i, h⟩
  obtain ⟨h2, h3, h4⟩ := bl_all ⟨i, h⟩
  refine ⟨bl i, ?_, h2, h3, fun h0 => by rw [bl, if_pos h0], h4⟩
  simp only [idxT]
  rw [if_pos (by omega), Int.toNat_natCast]
  simp only at h1
  cases hc : tab8[i]? with
  | none => rw [hc] at h1; cases h1
  | some c =>
    rw [hc] at h1
    simp only [Option.map_some, Option.some.injEq] at h1 ⊢
    rw [h1]

set_option maxRecDepth 100000 in
theorem len64_spec {w : World} (x : Nat) (hx : x < 18446744073709551616) {K : Value → World → Prop}
    (k : ∀ n, IsLen x n → n ≤ 64 → K (.int .i64 (n : Nat)) w) : F42 (.int .u64 x) w K := by
  unfold F42
  have sh : ∀ (y b : Nat), b ≤ 64 → binV .shr (.int .u64 y) (.int .u64 b) = some (.int .u64 ((y / 2 ^ b : Nat) : Int)) := fun y b hb => st_shr (k := .u64) (k' := .u64) (a := y) (b := b) hb
  have s32 : ∀ y : Nat, binV .shr (.int .u64 y) (.int .u64 32) = some (.int .u64 ((y / 2 ^ 32 : Nat) : Int)) := fun y => sh y 32 (by omega)
  have s16 : ∀ y : Nat, binV .shr (.int .u64 y) (.int .u64 16) = some (.int .u64 ((y / 2 ^ 16 : Nat) : Int)) := fun y => sh y 16 (by omega)
  have s8 : ∀ y : Nat, binV .shr (.int .u64 y) (.int .u64 8) = some (.int .u64 ((y / 2 ^ 8 : Nat) : Int)) := fun y => sh y 8 (by omega)
  refine ⟨fun vs w' => ∃ y n : Nat, vs = [.int .u64 y, .int .i64 n] ∧ w' = w ∧ x / 2 ^ n = y ∧ (n = 0 ∨ 1 ≤ y) ∧ y < 2 ^ 32 ∧ n ≤ 32, ?_, ?_⟩
  · try simp (disch := omega) only [pV_some, pE_some, pU_some, st_add, st_sub, st_mul, st_quo, st_rem, st_eql, st_neq, st_lss, st_leq, st_gtr, st_geq, st_seq, st_sneq, st_beq, st_bneq, st_not, st_neg, st_lenS, st_capS, st_lenT, st_fldA, st_conv, st_pick, st_ext0, st_ext1, st_ext2, st_ext3, st_nilS, st_nilP, st_nilF, st_nilE, st_nilN, st_none, st_some, st_true, st_false, nilC, add_lit, Nat.zero_add, Nat.add_zero, nth0, nth1, nth2, nth3, nth4, nth5, nth6, List.getElem?_cons_succ, List.getElem?_cons_zero, cond_true, cond_false, pSC_orp, pSC_andp, wrap_i64, Bool.not_true, Bool.not_false]
    refine pIf_of (fun h => ?_) (fun h => ?_)
    · have h : 4294967296 ≤ x := by simp at h; omega
      simp only [s32, pV_some]
      exact ⟨x / 2 ^ 32, 32, rfl, by trivial, rfl, .inr (by omega), by omega, by omega⟩
    · have h : x < 4294967296 := by simp at h; omega
      exact ⟨x, 0, rfl, by trivial, by simp, .inl rfl, h, by omega⟩
  rintro vs w' ⟨y, n, rfl, rfl, hy, hn, hy32, hn32⟩
  refine ⟨fun vs w1 => ∃ y n : Nat, vs = [.int .u64 y, .int .i64 n] ∧ w1 = w' ∧ x / 2 ^ n = y ∧ (n = 0 ∨ 1 ≤ y) ∧ y < 2 ^ 16 ∧ n ≤ 48, ?_, ?_⟩
  · try simp (disch := omega) only [pV_some, pE_some, pU_some, st_add, st_sub, st_mul, st_quo, st_rem, st_eql, st_neq, st_lss, st_leq, st_gtr, st_geq, st_seq, st_sneq, st_beq, st_bneq, st_not, st_neg, st_lenS, st_capS, st_lenT, st_fldA, st_conv, st_pick, st_ext0, st_ext1, st_ext2, st_ext3, st_nilS, st_nilP, st_nilF, st_nilE, st_nilN, st_none, st_some, st_true, st_false, nilC, add_lit, Nat.zero_add, Nat.add_zero, nth0, nth1, nth2, nth3, nth4, nth5, nth6, List.getElem?_cons_succ, List.getElem?_cons_zero, cond_true, cond_false, pSC_orp, pSC_andp, wrap_i64, Bool.not_true, Bool.not_false]
    refine pIf_of (fun h => ?_) (fun h => ?_)
    · have h : 65536 ≤ y := by simp at h; omega
      simp only [s16, pV_some]
      try simp (disch := omega) only [pV_some, pE_some, pU_some, st_add, st_sub, st_mul, st_quo, st_rem, st_eql, st_neq, st_lss, st_leq, st_gtr, st_geq, st_seq, st_sneq, st_beq, st_bneq, st_not, st_neg, st_lenS, st_capS, st_lenT, st_fldA, st_conv, st_pick, st_ext0, st_ext1, st_ext2, st_ext3, st_nilS, st_nilP, st_nilF, st_nilE, st_nilN, st_none, st_some, st_true, st_false, nilC, add_lit, Nat.zero_add, Nat.add_zero, nth0, nth1, nth2, nth3, nth4, nth5, nth6, List.getElem?_cons_succ, List.getElem?_cons_zero, cond_true, cond_false, pSC_orp, pSC_andp, wrap_i64, Bool.not_true, Bool.not_false]
      exact ⟨y / 2 ^ 16, n + 16, rfl, by trivial, by rw [← hy, Nat.div_div_eq_div_mul, ← Nat.pow_add], .inr (by omega), by omega, by omega⟩
    · have h : y < 65536 := by simp at h; omega
      exact ⟨y, n, rfl, by trivial, hy, hn, h, by omega⟩
  rintro vs w' ⟨y, n, rfl, rfl, hy, hn, hy32, hn32⟩
  refine ⟨fun vs w1 => ∃ y n : Nat, vs = [.int .u64 y, .int .i64 n] ∧ w1 = w' ∧ x / 2 ^ n = y ∧ (n = 0 ∨ 1 ≤ y) ∧ y < 2 ^ 8 ∧ n ≤ 56, ?_, ?_⟩
  · try simp (disch := omega) only [pV_some, pE_some, pU_some, st_add, st_sub, st_mul, st_quo, st_rem, st_eql, st_neq, st_lss, st_leq, st_gtr, st_geq, st_seq, st_sneq, st_beq, st_bneq, st_not, st_neg, st_lenS, st_capS, st_lenT, st_fldA, st_conv, st_pick, st_ext0, st_ext1, st_ext2, st_ext3, st_nilS, st_nilP, st_nilF, st_nilE, st_nilN, st_none, st_some, st_true, st_false, nilC, add_lit, Nat.zero_add, Nat.add_zero, nth0, nth1, nth2, nth3, nth4, nth5, nth6, List.getElem?_cons_succ, List.getElem?_cons_zero, cond_true, cond_false, pSC_orp, pSC_andp, wrap_i64, Bool.not_true, Bool.not_false]
    refine pIf_of (fun h => ?_) (fun h => ?_)
    · have h : 256 ≤ y := by simp at h; omega
      simp only [s8, pV_some]
      try simp (disch := omega) only [pV_some, pE_some, pU_some, st_add, st_sub, st_mul, st_quo, st_rem, st_eql, st_neq, st_lss, st_leq, st_gtr, st_geq, st_seq, st_sneq, st_beq, st_bneq, st_not, st_neg, st_lenS, st_capS, st_lenT, st_fldA, st_conv, st_pick, st_ext0, st_ext1, st_ext2, st_ext3, st_nilS, st_nilP, st_nilF, st_nilE, st_nilN, st_none, st_some, st_true, st_false, nilC, add_lit, Nat.zero_add, Nat.add_zero, nth0, nth1, nth2, nth3, nth4, nth5, nth6, List.getElem?_cons_succ, List.getElem?_cons_zero, cond_true, cond_false, pSC_orp, pSC_andp, wrap_i64, Bool.not_true, Bool.not_false]
      exact ⟨y / 2 ^ 8, n + 8, rfl, by trivial, by rw [← hy, Nat.div_div_eq_div_mul, ← Nat.pow_add], .inr (by omega), by omega, by omega⟩
    · have h : y < 256 := by simp at h; omega
      exact ⟨y, n, rfl, by trivial, hy, hn, h, by omega⟩
  rintro vs w' ⟨y, n, rfl, rfl, hy, hn, hy8, hn32⟩
  obtain ⟨b, hb, hb8, h1, h2, h3⟩ := len8_all y hy8
  try simp (disch := omega) only [pV_some, pE_some, pU_some, st_add, st_sub, st_mul, st_quo, st_rem, st_eql, st_neq, st_lss, st_leq, st_gtr, st_geq, st_seq, st_sneq, st_beq, st_bneq, st_not, st_neg, st_lenS, st_capS, st_lenT, st_fldA, st_conv, st_pick, st_ext0, st_ext1, st_ext2, st_ext3, st_nilS, st_nilP, st_nilF, st_nilE, st_nilN, st_none, st_some, st_true, st_false, nilC, add_lit, Nat.zero_add, Nat.add_zero, nth0, nth1, nth2, nth3, nth4, nth5, nth6, List.getElem?_cons_succ, List.getElem?_cons_zero, cond_true, cond_false, pSC_orp, pSC_andp, wrap_i64, Bool.not_true, Bool.not_false, wrap_u8]
  rw [Nat.mod_eq_of_lt (show y < 256 by omega)]
  refine pV_eq (v := .int .u8 b) (Eq.trans (congrArg (fun s => idxT (.string s) (.int .u8 (y : Int))) (?_ : _ = tab8)) hb) ?_
  · kernel_rfl
  try simp (disch := omega) only [pV_some, pE_some, pU_some, st_add, st_sub, st_mul, st_quo, st_rem, st_eql, st_neq, st_lss, st_leq, st_gtr, st_geq, st_seq, st_sneq, st_beq, st_bneq, st_not, st_neg, st_lenS, st_capS, st_lenT, st_fldA, st_conv, st_pick, st_ext0, st_ext1, st_ext2, st_ext3, st_nilS, st_nilP, st_nilF, st_nilE, st_nilN, st_none, st_some, st_true, st_false, nilC, add_lit, Nat.zero_add, Nat.add_zero, nth0, nth1, nth2, nth3, nth4, nth5, nth6, List.getElem?_cons_succ, List.getElem?_cons_zero, cond_true, cond_false, pSC_orp, pSC_andp, wrap_i64, Bool.not_true, Bool.not_false]
  have hp : 0 < 2 ^ n := Nat.pow_pos (by omega)
  refine k (n + b) ⟨?_, ?_, ?_⟩ (by omega)
  · have : x / 2 ^ n < 2 ^ b := by rw [hy]; exact h1
    rw [Nat.pow_add, Nat.mul_comm]
    exact (Nat.div_lt_iff_lt_mul hp).1 this
  · intro h0
    subst h0
    have hy0 : y = 0 := by rw [← hy]; simp
    rcases hn with rfl | hn
    · rw [h2 hy0]
    · omega
  · intro h0
    by_cases hy0 : y = 0
    · rcases hn with rfl | hn
      · simp at hy; omega
      · omega
    · obtain ⟨hb1, hb2⟩ := h3 hy0
      refine ⟨by omega, ?_⟩
      rw [show n + b - 1 = (b - 1) + n by omega, Nat.pow_add]
      have : 2 ^ (b - 1) ≤ x / 2 ^ n := by rw [hy]; exact hb2
      exact (Nat.le_div_iff_mul_le hp).1 this

/-- The level of a tick, and its digit at a level. -/
def IsLev (now t l : Nat) : Prop := t / 64 ^ (l + 1) = now / 64 ^ (l + 1) ∧ (l = 0 ∨ t / 64 ^ l ≠ now / 64 ^ l)
def dig (t l : Nat) : Nat := t / 64 ^ l % 64
theorem dig_lt (t l : Nat) : dig t l < 64 := Nat.mod_lt _ (by omega)
theorem div_up {a b l m : Nat} (h : a / 64 ^ l = b / 64 ^ l) (hm : l ≤ m) : a / 64 ^ m = b / 64 ^ m := by
  obtain ⟨d, rfl⟩ := Nat.exists_eq_add_of_le hm
  rw [Nat.pow_add, ← Nat.div_div_eq_div_mul, ← Nat.div_div_eq_div_mul, h]
theorem IsLev.uniq {now t l m : Nat} (h : IsLev now t l) (k : IsLev now t m) : l = m := by
  rcases Nat.lt_trichotomy l m with hlt | h' | hlt
  · rcases k.2 with k0 | k0
    · omega
    · exact absurd (div_up h.1 hlt) k0
  · exact h'
  · rcases h.2 with h0 | h0
    · omega
    · exact absurd (div_up k.1 hlt) h0
theorem div_split (t l : Nat) : t / 64 ^ l = t / 64 ^ (l + 1) * 64 + dig t l := by
  unfold dig
  rw [Nat.pow_succ, ← Nat.div_div_eq_div_mul]
  omega
theorem div_mono {a b : Nat} (h : a ≤ b) (l : Nat) : a / 64 ^ l ≤ b / 64 ^ l := Nat.div_le_div_right h
/-- The level as the code reckons it. -/
theorem lev_code {now t n : Nat} (hn : IsLen (t ^^^ now) n) : IsLev now t ((n - 1) / 6) := by
  have hx : ∀ k, (t ^^^ now) / 2 ^ k = t / 2 ^ k ^^^ now / 2 ^ k := fun k => by
    have := Nat.shiftRight_xor_distrib (a := t) (b := now) (i := k)
    simpa [Nat.shiftRight_eq_div_pow] using this
  have p6 : ∀ l, 64 ^ l = 2 ^ (6 * l) := fun l => by rw [Nat.pow_mul]
  obtain ⟨h1, h2, h3⟩ := hn
  have hxor : ∀ a b : Nat, a ^^^ b = 0 → a = b := fun a b h => by
    have : a ^^^ b ^^^ b = 0 ^^^ b := by rw [h]
    rwa [Nat.xor_assoc, Nat.xor_self, Nat.xor_zero, Nat.zero_xor] at this
  constructor
  · rw [p6]
    apply hxor
    rw [← hx]
    apply Nat.div_eq_of_lt
    exact Nat.lt_of_lt_of_le h1 (Nat.pow_le_pow_right (by omega) (by omega))
  · by_cases h0 : t ^^^ now = 0
    · left; rw [h2 h0]
    · right
      obtain ⟨h4, h5⟩ := h3 h0
      intro he
      rw [p6] at he
      have : (t ^^^ now) / 2 ^ (6 * ((n - 1) / 6)) = 0 := by rw [hx, he, Nat.xor_self]
      have hlt := (Nat.div_eq_zero_iff.1 this)
      rcases hlt with h | h
      · have := Nat.pow_pos (n := 6 * ((n - 1) / 6)) (show 0 < 2 by omega)
        omega
      · have : 2 ^ (6 * ((n - 1) / 6)) ≤ 2 ^ (n - 1) := Nat.pow_le_pow_right (by omega) (by omega)
        omega
theorem exists_len (x : Nat) : ∃ n, IsLen x n := by
  by_cases h : x = 0
  · exact ⟨0, by subst h; exact ⟨by simp, fun _ => rfl, fun h => absurd rfl h⟩⟩
  · refine ⟨Nat.log2 x + 1, Nat.lt_log2_self, fun h' => absurd h' h, fun _ => ⟨by omega, ?_⟩⟩
    rw [Nat.add_sub_cancel]
    exact Nat.log2_self_le h
/-- The level. -/
noncomputable def lev (now t : Nat) : Nat := ((exists_len (t ^^^ now)).choose - 1) / 6
theorem lev_is (now t : Nat) : IsLev now t (lev now t) := lev_code (exists_len (t ^^^ now)).choose_spec
theorem lev_eq {now t l : Nat} (h : IsLev now t l) : lev now t = l := (lev_is now t).uniq h
theorem lev_lt {now t : Nat} (hn : now < 4398046511104) (ht : t < 4398046511104) : lev now t < 7 := by
  have h := lev_is now t
  rcases Nat.lt_or_ge (lev now t) 7 with h' | h'
  · exact h'
  · rcases h.2 with h0 | h0
    · omega
    · have e : ∀ a, a < 4398046511104 → a / 64 ^ lev now t = 0 := fun a ha => by
        apply Nat.div_eq_of_lt
        have : 64 ^ 7 ≤ 64 ^ lev now t := Nat.pow_le_pow_right (by omega) h'
        have e7 : (64 : Nat) ^ 7 = 4398046511104 := by decide
        omega
      rw [e _ hn, e _ ht] at h0
      exact absurd rfl h0
/-- The slot. -/
noncomputable def slot (now t : Nat) : Nat := lev now t * 64 + dig t (lev now t)
theorem slot_lt {now t : Nat} (hn : now < 4398046511104) (ht : t < 4398046511104) : slot now t < 448 := by
  have := lev_lt hn ht
  have := dig_lt t (lev now t)
  unfold slot; omega
theorem slot_split {l d l' d' : Nat} (hd : d < 64) (hd' : d' < 64) (h : l * 64 + d = l' * 64 + d') : l = l' ∧ d = d' := by omega

theorem st_max {P : Program} {ts : Array TypeId} {ty : TypeId} {k : IntKind} {a b : Int} : dry P (Builtin.max_ ts ty #[.int k a, .int k b]) = some (.int k (max a b)) := by
  have : max a b = if b > a then b else a := by split <;> omega
  rw [this]; rfl
theorem st_min {P : Program} {ts : Array TypeId} {ty : TypeId} {k : IntKind} {a b : Int} : dry P (Builtin.min_ ts ty #[.int k a, .int k b]) = some (.int k (min a b)) := by
  have : min a b = if b < a then b else a := by split <;> omega
  rw [this]; rfl
end Go.Proofs.Ytbbjljhbiaeadaa
