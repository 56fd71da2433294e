/- script: codec.Sum and bulkheadref02.Sum tell the same. -/
import Derived.Test.YtcghhhjklihpkaaSbD
set_option linter.unusedSimpArgs false
set_option linter.unusedVariables false
namespace Go.Proofs.Ytcghhhjklihpkaa
open Go.Bk Go.RowKit

theorem sh1 {a : Nat} : binV .shr (.int .u32 a) (.int .u64 1) = some (.int .u32 ((a / 2 : Nat) : Int)) := by
  have := st_shr (k := .u32) (k' := .u64) (a := a) (b := 1) (by decide)
  simpa using this
theorem an1 {a : Nat} (h : a < 4294967296) : binV .and (.int .u32 a) (.int .u32 1) = some (.int .u32 ((a % 2 : Nat) : Int)) := by
  have := st_and32 (a := a) (b := 1) h (by omega)
  rw [Nat.and_one_is_mod] at this
  exact this
theorem mulp {a : Nat} : binV .mul (.int .u32 3988292384) (.int .u32 ((a % 2 : Nat) : Int)) = some (.int .u32 ((poly * (a % 2) : Nat) : Int)) := by
  rw [st_mul]
  have e : (3988292384 : Int) * ((a % 2 : Nat) : Int) = ((poly * (a % 2) : Nat) : Int) := by unfold poly; omega
  rw [e, wrap_u32, Nat.mod_eq_of_lt]
  unfold poly
  omega

theorem sumA_spec {w : World} {v : Value} {l : List Nat} (hv : RdB w v l) (hl : l.length ≤ 2147483647) (hb : ∀ x ∈ l, x < 256) {K : Value → World → Prop}
    (k : K (.int .u32 ((4294967295 - sumB l : Nat) : Int)) w) (hs : sumB l < 4294967296) : F54 v w K := by
  unfold F54
  simp (disch := omega) only [pV_some, pE_some, pU_some, st_add, st_sub, st_mul, st_quo, st_rem, st_eql, st_neq, st_lss, st_leq, st_gtr, st_geq, st_seq, st_sneq, st_beq, st_bneq, st_not, st_neg, st_lenS, st_capS, st_lenT, st_fldA, st_conv, st_pick, st_ext0, st_ext1, st_ext2, st_ext3, st_nilS, st_nilP, st_nilF, st_nilE, st_nilN, st_none, st_some, st_true, st_false, nilC, add_lit, Nat.zero_add, Nat.add_zero, nth0, nth1, nth2, nth3, nth4, nth5, nth6, List.getElem?_cons_succ, List.getElem?_cons_zero, cond_true, cond_false, pSC_orp, pSC_andp, wrap_i64, Bool.not_true, Bool.not_false, hv.len]
  refine pLoop_up (I := fun i vs w' => vs = [.int .u32 ((sumB (l.take i) : Nat) : Int), .int .i64 (i : Nat)] ∧ sumB (l.take i) < 4294967296 ∧ w' = w) l.length 0 (Nat.zero_le _) ⟨rfl, by simp [sumB], rfl⟩ ?_
  rintro i vs w1 hi ⟨rfl, hlt, rfl⟩ go hgo
  simp (disch := omega) only [pV_some, pE_some, pU_some, st_add, st_sub, st_mul, st_quo, st_rem, st_eql, st_neq, st_lss, st_leq, st_gtr, st_geq, st_seq, st_sneq, st_beq, st_bneq, st_not, st_neg, st_lenS, st_capS, st_lenT, st_fldA, st_conv, st_pick, st_ext0, st_ext1, st_ext2, st_ext3, st_nilS, st_nilP, st_nilF, st_nilE, st_nilN, st_none, st_some, st_true, st_false, nilC, add_lit, Nat.zero_add, Nat.add_zero, nth0, nth1, nth2, nth3, nth4, nth5, nth6, List.getElem?_cons_succ, List.getElem?_cons_zero, cond_true, cond_false, pSC_orp, pSC_andp, wrap_i64, Bool.not_true, Bool.not_false]
  refine pIf_of (fun h => ?_) (fun h => ?_)
  · have h : i < l.length := by simpa using h
    have hx := List.getElem?_eq_getElem h
    have hc := hb _ (List.getElem_mem h)
    obtain ⟨ad, i1, c1⟩ := hv.at1 (bys_at hx) (x := i) rfl
    simp (disch := omega) only [pV_some, pE_some, pU_some, st_add, st_sub, st_mul, st_quo, st_rem, st_eql, st_neq, st_lss, st_leq, st_gtr, st_geq, st_seq, st_sneq, st_beq, st_bneq, st_not, st_neg, st_lenS, st_capS, st_lenT, st_fldA, st_conv, st_pick, st_ext0, st_ext1, st_ext2, st_ext3, st_nilS, st_nilP, st_nilF, st_nilE, st_nilN, st_none, st_some, st_true, st_false, nilC, add_lit, Nat.zero_add, Nat.add_zero, nth0, nth1, nth2, nth3, nth4, nth5, nth6, List.getElem?_cons_succ, List.getElem?_cons_zero, cond_true, cond_false, pSC_orp, pSC_andp, wrap_i64, Bool.not_true, Bool.not_false, i1, ld1r c1, wrap_u32]
    have e0 : l[i] % 4294967296 = l[i] := Nat.mod_eq_of_lt (by omega)
    rw [e0]
    simp (disch := omega) only [pV_some, pE_some, pU_some, st_add, st_sub, st_mul, st_quo, st_rem, st_eql, st_neq, st_lss, st_leq, st_gtr, st_geq, st_seq, st_sneq, st_beq, st_bneq, st_not, st_neg, st_lenS, st_capS, st_lenT, st_fldA, st_conv, st_pick, st_ext0, st_ext1, st_ext2, st_ext3, st_nilS, st_nilP, st_nilF, st_nilE, st_nilN, st_none, st_some, st_true, st_false, nilC, add_lit, Nat.zero_add, Nat.add_zero, nth0, nth1, nth2, nth3, nth4, nth5, nth6, List.getElem?_cons_succ, List.getElem?_cons_zero, cond_true, cond_false, pSC_orp, pSC_andp, wrap_i64, Bool.not_true, Bool.not_false, st_xor32 hlt (show l[i] < 4294967296 by omega)]
    have hx0 : sumB (l.take i) ^^^ l[i] < 4294967296 := by
      have : sumB (l.take i) ^^^ l[i] < 2 ^ 32 := Nat.xor_lt_two_pow (by omega) (by omega)
      exact this
    refine pLoop_up (I := fun j vs w' => vs = [.int .u32 ((bitsA (sumB (l.take i) ^^^ l[i]) j : Nat) : Int), .int .i64 (j : Nat)] ∧ w' = w1) 8 0 (by omega) ⟨rfl, rfl⟩ ?_
    rintro j vs w2 hj ⟨rfl, rfl⟩ go2 hgo2
    simp only [nth0, nth1, st_lss, pV_some]
    refine pIf_of (fun h8 => ?_) (fun h8 => ?_)
    · have h8 : j < 8 := by simp at h8; omega
      have hA := bitsA_lt hx0 j
      have hA2 : bitsA (sumB (l.take i) ^^^ l[i]) j / 2 < 4294967296 := by omega
      have hp : poly * (bitsA (sumB (l.take i) ^^^ l[i]) j % 2) < 4294967296 := by
        unfold poly
        omega
      simp only [sh1, an1 hA, mulp, st_xor32 hA2 hp, pV_some]
      simp (disch := omega) only [pV_some, pE_some, pU_some, st_add, st_sub, st_mul, st_quo, st_rem, st_eql, st_neq, st_lss, st_leq, st_gtr, st_geq, st_seq, st_sneq, st_beq, st_bneq, st_not, st_neg, st_lenS, st_capS, st_lenT, st_fldA, st_conv, st_pick, st_ext0, st_ext1, st_ext2, st_ext3, st_nilS, st_nilP, st_nilF, st_nilE, st_nilN, st_none, st_some, st_true, st_false, nilC, add_lit, Nat.zero_add, Nat.add_zero, nth0, nth1, nth2, nth3, nth4, nth5, nth6, List.getElem?_cons_succ, List.getElem?_cons_zero, cond_true, cond_false, pSC_orp, pSC_andp, wrap_i64, Bool.not_true, Bool.not_false]
      exact hgo2 _ _ h8 ⟨by simp [bitsA, crcA], rfl⟩
    · obtain rfl : j = 8 := by simp at h8; omega
      have e : sumB (l.take (i + 1)) = bitsA (sumB (l.take i) ^^^ l[i]) 8 := by
        rw [byte_same _ _ hc, List.take_add_one, hx]
        simp only [sumB, Option.toList_some, List.foldl_append, List.foldl_cons, List.foldl_nil]
      refine hgo _ _ h ⟨by rw [e]; simp, by rw [e]; exact bitsA_lt hx0 8, rfl⟩
  · obtain rfl : i = l.length := by simp at h; omega
    rw [List.take_length]
    have e : unV .xor (.int .u32 ((sumB l : Nat) : Int)) = some (.int .u32 ((4294967295 - sumB l : Nat) : Int)) := by
      have h1 : unV .xor (.int .u32 ((sumB l : Nat) : Int)) = some (.int .u32 (IntKind.u32.wrap ((BitVec.ofInt 32 ((4294967295 : Nat) : Int) ^^^ BitVec.ofInt 32 ((sumB l : Nat) : Int)).toNat : Int))) := rfl
      have h2 : (BitVec.ofInt 32 ((4294967295 : Nat) : Int) ^^^ BitVec.ofInt 32 ((sumB l : Nat) : Int)).toNat = 4294967295 - sumB l := by
        have hb : BitVec.ofInt 32 ((4294967295 : Nat) : Int) = BitVec.allOnes 32 := by decide
        rw [hb, ← BitVec.not_def, BitVec.toNat_not, ofInt_nat, BitVec.toNat_ofNat, Nat.mod_eq_of_lt (by omega)]
      rw [h1, h2, wrap_u32, Nat.mod_eq_of_lt (by omega)]
    simp (disch := omega) only [pV_some, pE_some, pU_some, st_add, st_sub, st_mul, st_quo, st_rem, st_eql, st_neq, st_lss, st_leq, st_gtr, st_geq, st_seq, st_sneq, st_beq, st_bneq, st_not, st_neg, st_lenS, st_capS, st_lenT, st_fldA, st_conv, st_pick, st_ext0, st_ext1, st_ext2, st_ext3, st_nilS, st_nilP, st_nilF, st_nilE, st_nilN, st_none, st_some, st_true, st_false, nilC, add_lit, Nat.zero_add, Nat.add_zero, nth0, nth1, nth2, nth3, nth4, nth5, nth6, List.getElem?_cons_succ, List.getElem?_cons_zero, cond_true, cond_false, pSC_orp, pSC_andp, wrap_i64, Bool.not_true, Bool.not_false, e]
    exact k
end Go.Proofs.Ytcghhhjklihpkaa
