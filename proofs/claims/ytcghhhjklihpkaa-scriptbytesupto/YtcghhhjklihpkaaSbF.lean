/- script: the document's check sum. -/
import Derived.Test.YtcghhhjklihpkaaSbE
set_option linter.unusedSimpArgs false
set_option linter.unusedVariables false
namespace Go.Proofs.Ytcghhhjklihpkaa
open Go.Bk Go.RowKit

theorem sumB_lt (l : List Nat) : sumB l < 4294967296 := by
  unfold sumB
  have : ∀ (l : List Nat) (s : Nat), s < 4294967296 → l.foldl (fun s c => bitsB s c 8) s < 4294967296 := by
    intro l
    induction l with
    | nil => intro s h; exact h
    | cons c l ih => intro s h; exact ih _ (bitsB_lt h 8)
  exact this l _ (by omega)
theorem rem2 {a : Nat} : binV .rem (.int .u32 (a : Int)) (.int .u32 2) = some (.int .u32 ((a % 2 : Nat) : Int)) := by
  rw [st_rem (by decide)]
  rfl
theorem quo2 {a : Nat} (h : a < 4294967296) : binV .quo (.int .u32 (a : Int)) (.int .u32 2) = some (.int .u32 ((a / 2 : Nat) : Int)) := by
  rw [st_quo (by decide)]
  have : Int.tdiv (a : Int) 2 = ((a / 2 : Nat) : Int) := rfl
  rw [this, wrap_u32, Nat.mod_eq_of_lt (by omega)]

theorem refsum_spec {w : World} {v : Value} {l : List Nat} (hv : RdB w v l) (hl : l.length ≤ 2147483647) (hb : ∀ x ∈ l, x < 256) {K : Value → World → Prop}
    (k : K (.int .u32 ((4294967295 - sumB l : Nat) : Int)) w) : F57 v w K := by
  unfold F57
  refine pLoop_up (I := fun i vs w' => vs = [.int .u32 ((sumB (l.take i) : Nat) : Int), .int .i64 (i : Nat)] ∧ w' = w) l.length 0 (Nat.zero_le _) ⟨rfl, rfl⟩ ?_
  rintro i vs w1 hi ⟨rfl, rfl⟩ go hgo
  simp (disch := omega) only [pV_some, pE_some, pU_some, st_add, st_sub, st_mul, st_quo, st_rem, st_eql, st_neq, st_lss, st_leq, st_gtr, st_geq, st_seq, st_sneq, st_beq, st_bneq, st_not, st_neg, st_lenS, st_capS, st_lenT, st_fldA, st_conv, st_pick, st_ext0, st_ext1, st_ext2, st_ext3, st_nilS, st_nilP, st_nilF, st_nilE, st_nilN, st_none, st_some, st_true, st_false, nilC, add_lit, Nat.zero_add, Nat.add_zero, nth0, nth1, nth2, nth3, nth4, nth5, nth6, List.getElem?_cons_succ, List.getElem?_cons_zero, cond_true, cond_false, pSC_orp, pSC_andp, wrap_i64, Bool.not_true, Bool.not_false, hv.len]
  refine pIf_of (fun h => ?_) (fun h => ?_)
  · have h : i < l.length := by simpa using h
    have hx := List.getElem?_eq_getElem h
    have hc := hb _ (List.getElem_mem h)
    have hlt := sumB_lt (l.take i)
    obtain ⟨ad, i1, c1⟩ := hv.at1 (bys_at hx) (x := i) rfl
    refine pLoop_up (I := fun j vs w' => vs = [.int .u32 ((bitsB (sumB (l.take i)) l[i] j : Nat) : Int), .int .i64 (j : Nat)] ∧ w' = w1) 8 0 (by omega) ⟨rfl, rfl⟩ ?_
    rintro j vs w2 hj ⟨rfl, rfl⟩ go2 hgo2
    simp only [nth0, nth1, st_lss, pV_some]
    refine pIf_of (fun h8 => ?_) (fun h8 => ?_)
    · have h8 : j < 8 := by simp at h8; omega
      have hB := bitsB_lt (c := l[i]) hlt j
      have hs := st_shr (k := .u8) (k' := .i64) (a := l[i]) (b := j) (by simp [IntKind.bits]; omega)
      have hq : l[i] / 2 ^ j < 4294967296 := Nat.lt_of_le_of_lt (Nat.div_le_self _ _) (by omega)
      simp only [i1, ld1r c1, pV_some, hs, st_conv, wrap_u32, Nat.mod_eq_of_lt hq, rem2, st_neq, quo2 hB]
      refine pJoin_id ?_
      have hd : bitsB (sumB (l.take i)) l[i] j / 2 < 4294967296 := by omega
      refine pIf_of (fun hu => ?_) (fun hu => ?_)
      · have := st_xor32 (a := bitsB (sumB (l.take i)) l[i] j / 2) (b := 3988292384) hd (by omega)
        have hx2 : binV .xor (.int .u32 ((bitsB (sumB (l.take i)) l[i] j / 2 : Nat) : Int)) (.int .u32 3988292384) = _ := this
        simp (disch := omega) only [pV_some, pE_some, pU_some, st_add, st_sub, st_mul, st_quo, st_rem, st_eql, st_neq, st_lss, st_leq, st_gtr, st_geq, st_seq, st_sneq, st_beq, st_bneq, st_not, st_neg, st_lenS, st_capS, st_lenT, st_fldA, st_conv, st_pick, st_ext0, st_ext1, st_ext2, st_ext3, st_nilS, st_nilP, st_nilF, st_nilE, st_nilN, st_none, st_some, st_true, st_false, nilC, add_lit, Nat.zero_add, Nat.add_zero, nth0, nth1, nth2, nth3, nth4, nth5, nth6, List.getElem?_cons_succ, List.getElem?_cons_zero, cond_true, cond_false, pSC_orp, pSC_andp, wrap_i64, Bool.not_true, Bool.not_false, hx2]
        refine hgo2 _ _ h8 ⟨?_, rfl⟩
        have hne : bitsB (sumB (l.take i)) l[i] j % 2 ≠ l[i] / 2 ^ j % 2 := by
          intro he
          rw [he] at hu
          simp at hu
        rw [bitsB, crcB, if_pos hne]
        simp [poly]
      · simp (disch := omega) only [pV_some, pE_some, pU_some, st_add, st_sub, st_mul, st_quo, st_rem, st_eql, st_neq, st_lss, st_leq, st_gtr, st_geq, st_seq, st_sneq, st_beq, st_bneq, st_not, st_neg, st_lenS, st_capS, st_lenT, st_fldA, st_conv, st_pick, st_ext0, st_ext1, st_ext2, st_ext3, st_nilS, st_nilP, st_nilF, st_nilE, st_nilN, st_none, st_some, st_true, st_false, nilC, add_lit, Nat.zero_add, Nat.add_zero, nth0, nth1, nth2, nth3, nth4, nth5, nth6, List.getElem?_cons_succ, List.getElem?_cons_zero, cond_true, cond_false, pSC_orp, pSC_andp, wrap_i64, Bool.not_true, Bool.not_false]
        refine hgo2 _ _ h8 ⟨?_, rfl⟩
        have he : bitsB (sumB (l.take i)) l[i] j % 2 = l[i] / 2 ^ j % 2 := by
          have h2 : ((bitsB (sumB (l.take i)) l[i] j % 2 : Nat) : Int) = ((l[i] / 2 ^ j % 2 : Nat) : Int) := by simpa only [Bool.not_eq_false', decide_eq_true_eq] using hu
          exact Int.ofNat.inj h2
        rw [bitsB, crcB, if_neg (by simpa using he)]
        simp
    · obtain rfl : j = 8 := by simp at h8; omega
      refine hgo _ _ h ⟨?_, rfl⟩
      have e : sumB (l.take (i + 1)) = bitsB (sumB (l.take i)) l[i] 8 := by
        rw [List.take_add_one, hx]
        simp only [sumB, Option.toList_some, List.foldl_append, List.foldl_cons, List.foldl_nil]
      rw [e]; simp
  · obtain rfl : i = l.length := by simp at h; omega
    have hlt := sumB_lt l
    rw [List.take_length]
    have e : (4294967295 : Int) - ((sumB l : Nat) : Int) = ((4294967295 - sumB l : Nat) : Int) := by omega
    rw [e, wrap_u32, Nat.mod_eq_of_lt (by omega)]
    exact k
end Go.Proofs.Ytcghhhjklihpkaa
