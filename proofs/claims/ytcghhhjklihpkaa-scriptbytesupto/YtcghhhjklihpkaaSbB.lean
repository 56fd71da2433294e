/- script: numbers in bytes. -/
import Derived.Test.YtcghhhjklihpkaaSbA
set_option linter.unusedSimpArgs false
set_option linter.unusedVariables false
namespace Go.Proofs.Ytcghhhjklihpkaa
open Go.Bk Go.RowKit

/-- The bytes of x from that of weight 256^(m+i) on, i of them. -/
def numTop (x n i : Nat) : List Nat := (List.range i).map fun j => x / 256 ^ (n - 1 - j) % 256
theorem numTop_succ (x n i : Nat) : numTop x n (i + 1) = numTop x n i ++ [x / 256 ^ (n - 1 - i) % 256] := by
  simp [numTop, List.range_succ]
theorem numTop_len (x n i : Nat) : (numTop x n i).length = i := by simp [numTop]

/-- bulkheadref02.Number. -/
theorem number_spec {w : World} (x n : Nat) (hn : n ≤ 8) {K : Value → World → Prop}
    (k : ∀ v' hp w', OwnB v' (numTop x n n) hp → St w no hp w' → K v' w') : F55 (.int .u64 x) (.int .i64 n) w K := by
  unfold F55
  simp (disch := omega) only [pV_some, pE_some, pU_some, st_add, st_sub, st_mul, st_quo, st_rem, st_eql, st_neq, st_lss, st_leq, st_gtr, st_geq, st_seq, st_sneq, st_beq, st_bneq, st_not, st_neg, st_lenS, st_capS, st_lenT, st_fldA, st_conv, st_pick, st_ext0, st_ext1, st_ext2, st_ext3, st_nilS, st_nilP, st_nilF, st_nilE, st_nilN, st_none, st_some, st_true, st_false, nilC, add_lit, Nat.zero_add, Nat.add_zero, nth0, nth1, nth2, nth3, nth4, nth5, nth6, List.getElem?_cons_succ, List.getElem?_cons_zero, cond_true, cond_false, pSC_orp, pSC_andp, wrap_i64, Bool.not_true, Bool.not_false]
  refine pLoop_up (I := fun i vs w' => ∃ v hp, vs = [v, .int .i64 ((n : Int) - 1 - i)] ∧ OwnB v (numTop x n i) hp ∧ St w no hp w') n 0 (Nat.zero_le _) ⟨_, [], by simp, ownS_nil _ _, St.nil _ _⟩ ?_
  rintro i vs w1 hi ⟨v, hp, rfl, ho, hs⟩ go hgo
  simp (disch := omega) only [pV_some, pE_some, pU_some, st_add, st_sub, st_mul, st_quo, st_rem, st_eql, st_neq, st_lss, st_leq, st_gtr, st_geq, st_seq, st_sneq, st_beq, st_bneq, st_not, st_neg, st_lenS, st_capS, st_lenT, st_fldA, st_conv, st_pick, st_ext0, st_ext1, st_ext2, st_ext3, st_nilS, st_nilP, st_nilF, st_nilE, st_nilN, st_none, st_some, st_true, st_false, nilC, add_lit, Nat.zero_add, Nat.add_zero, nth0, nth1, nth2, nth3, nth4, nth5, nth6, List.getElem?_cons_succ, List.getElem?_cons_zero, cond_true, cond_false, pSC_orp, pSC_andp, wrap_i64, Bool.not_true, Bool.not_false]
  refine pIf_of (fun hlt => ?_) (fun hlt => ?_)
  · have hlt : i < n := by have := of_decide_eq_true hlt; omega
    have e : (8 : Int) * ((n : Int) - 1 - i) = ((8 * (n - 1 - i) : Nat) : Int) := by omega
    rw [e]
    simp (disch := omega) only [pV_some, pE_some, pU_some, st_add, st_sub, st_mul, st_quo, st_rem, st_eql, st_neq, st_lss, st_leq, st_gtr, st_geq, st_seq, st_sneq, st_beq, st_bneq, st_not, st_neg, st_lenS, st_capS, st_lenT, st_fldA, st_conv, st_pick, st_ext0, st_ext1, st_ext2, st_ext3, st_nilS, st_nilP, st_nilF, st_nilE, st_nilN, st_none, st_some, st_true, st_false, nilC, add_lit, Nat.zero_add, Nat.add_zero, nth0, nth1, nth2, nth3, nth4, nth5, nth6, List.getElem?_cons_succ, List.getElem?_cons_zero, cond_true, cond_false, pSC_orp, pSC_andp, wrap_i64, Bool.not_true, Bool.not_false, st_shr (k := .u64) (k' := .i64) (a := x) (b := 8 * (n - 1 - i)) (by simp [IntKind.bits]; omega), wrap_u8]
    have e2 : x / 2 ^ (8 * (n - 1 - i)) % 256 = x / 256 ^ (n - 1 - i) % 256 := by rw [Nat.pow_mul]
    rw [e2]
    refine app_bys [x / 256 ^ (n - 1 - i) % 256] rfl ho (h := []) (by simpa using hs) (by rw [numTop_len]; simp; omega) (fun v' hp' w' ho' hs' => ?_)
    refine hgo _ _ hlt ⟨v', hp', by congr 2; simp; omega, by rw [numTop_succ]; exact ho', by simpa using hs'⟩
  · obtain rfl : i = n := by have := of_decide_eq_false hlt; omega
    exact k v hp w1 ho hs
end Go.Proofs.Ytcghhhjklihpkaa
