/- wheel: the document's wheel: a sorted list of timers. -/
import Derived.Test.YtbbjljhbiaeadaaWhL
set_option linter.unusedSimpArgs false
set_option linter.unusedVariables false
set_option maxRecDepth 100000
namespace Go.Proofs.Ytbbjljhbiaeadaa
open Go.Bk Go.RowKit

theorem remL_len (id : Int) (L : List (Int × Int)) : (remL id L).length ≤ L.length := List.length_filter_le ..
theorem insL_len (e : Int × Int) (L : List (Int × Int)) : (insL e L).length = L.length + 1 := by rw [(insL_perm e L).length_eq]; rfl

theorem without_spec {w : World} {v : Value} {L : List (Int × Int)} (hv : RdF w v L) (hl : L.length ≤ 65537) (id : Int) {K : Value → World → Prop}
    (k : ∀ v' hp' w', OwnF v' (remL id L) hp' → St w no hp' w' → K v' w') : F40 v (.int .i64 id) w K := by
  unfold F40
  refine pLoop_up (I := fun i vs w' => ∃ v' hp', vs = [v', .int .i64 (i : Nat)] ∧ OwnF v' (remL id (L.take i)) hp' ∧ St w no hp' w') L.length 0 (Nat.zero_le _) ⟨_, [], rfl, ownS_nil _ _, St.nil _ _⟩ ?_
  rintro i vs w1 hi ⟨v1, hp1, rfl, ho1, hs1⟩ go hgo
  try simp (disch := omega) only [pV_some, pE_some, pU_some, st_add, st_sub, st_mul, st_quo, st_rem, st_eql, st_neq, st_lss, st_leq, st_gtr, st_geq, st_seq, st_sneq, st_beq, st_bneq, st_not, st_neg, st_lenS, st_capS, st_lenT, st_fldA, st_conv, st_pick, st_ext0, st_ext1, st_ext2, st_ext3, st_nilS, st_nilP, st_nilF, st_nilE, st_nilN, st_none, st_some, st_true, st_false, nilC, add_lit, Nat.zero_add, Nat.add_zero, nth0, nth1, nth2, nth3, nth4, nth5, nth6, List.getElem?_cons_succ, List.getElem?_cons_zero, cond_true, cond_false, pSC_orp, pSC_andp, wrap_i64, Bool.not_true, Bool.not_false, hv.len]
  refine pIf_of (fun hlt => ?_) (fun hlt => ?_)
  · have hlt : i < L.length := by simpa using hlt
    have hx := List.getElem?_eq_getElem hlt
    refine pJoin_id ?_
    obtain ⟨ad, i1, c1⟩ := RdC.fat (hv.gr hs1.tr) hx (x := i) rfl
    have hb := remL_len id (L.take i)
    rw [List.length_take] at hb
    try simp (disch := omega) only [pV_some, pE_some, pU_some, st_add, st_sub, st_mul, st_quo, st_rem, st_eql, st_neq, st_lss, st_leq, st_gtr, st_geq, st_seq, st_sneq, st_beq, st_bneq, st_not, st_neg, st_lenS, st_capS, st_lenT, st_fldA, st_conv, st_pick, st_ext0, st_ext1, st_ext2, st_ext3, st_nilS, st_nilP, st_nilF, st_nilE, st_nilN, st_none, st_some, st_true, st_false, nilC, add_lit, Nat.zero_add, Nat.add_zero, nth0, nth1, nth2, nth3, nth4, nth5, nth6, List.getElem?_cons_succ, List.getElem?_cons_zero, cond_true, cond_false, pSC_orp, pSC_andp, wrap_i64, Bool.not_true, Bool.not_false, i1, c1.fld (j := 1) rfl, fr_ld c1]
    refine pIf_of (fun h => ?_) (fun h => ?_)
    · have h : L[i].2 ≠ id := by simpa using h
      refine app_fr ho1 (h := []) (hs1.re (fun _ => by simp only [cnt_nil, cnt_cons, cnt_append]; omega)) (by omega) (fun v2 hp2 w2 ho2 hs2 => ?_)
      try simp (disch := omega) only [pV_some, pE_some, pU_some, st_add, st_sub, st_mul, st_quo, st_rem, st_eql, st_neq, st_lss, st_leq, st_gtr, st_geq, st_seq, st_sneq, st_beq, st_bneq, st_not, st_neg, st_lenS, st_capS, st_lenT, st_fldA, st_conv, st_pick, st_ext0, st_ext1, st_ext2, st_ext3, st_nilS, st_nilP, st_nilF, st_nilE, st_nilN, st_none, st_some, st_true, st_false, nilC, add_lit, Nat.zero_add, Nat.add_zero, nth0, nth1, nth2, nth3, nth4, nth5, nth6, List.getElem?_cons_succ, List.getElem?_cons_zero, cond_true, cond_false, pSC_orp, pSC_andp, wrap_i64, Bool.not_true, Bool.not_false]
      exact hgo _ _ hlt ⟨v2, hp2, by simp, by rw [remL_step hx h]; exact ho2, hs2.re (fun _ => by simp only [cnt_nil, cnt_cons, cnt_append]; omega)⟩
    · have h : L[i].2 = id := by simpa using h
      try simp (disch := omega) only [pV_some, pE_some, pU_some, st_add, st_sub, st_mul, st_quo, st_rem, st_eql, st_neq, st_lss, st_leq, st_gtr, st_geq, st_seq, st_sneq, st_beq, st_bneq, st_not, st_neg, st_lenS, st_capS, st_lenT, st_fldA, st_conv, st_pick, st_ext0, st_ext1, st_ext2, st_ext3, st_nilS, st_nilP, st_nilF, st_nilE, st_nilN, st_none, st_some, st_true, st_false, nilC, add_lit, Nat.zero_add, Nat.add_zero, nth0, nth1, nth2, nth3, nth4, nth5, nth6, List.getElem?_cons_succ, List.getElem?_cons_zero, cond_true, cond_false, pSC_orp, pSC_andp, wrap_i64, Bool.not_true, Bool.not_false]
      exact hgo _ _ hlt ⟨v1, hp1, by simp, by rw [remL_skip hx h]; exact ho1, hs1⟩
  · obtain rfl : i = L.length := by simp at hlt; omega
    rw [List.take_length] at ho1
    exact k _ _ _ ho1 hs1

/-- Does a come behind e? -/
def ltb (e a : Int × Int) : Bool := decide (e.1 < a.1) || (decide (a.1 = e.1) && decide (e.2 < a.2))
theorem ltb_iff (e a : Int × Int) : ltb e a = true ↔ (e.1 < a.1 ∨ (e.1 = a.1 ∧ e.2 < a.2)) := by
  unfold ltb
  simp only [Bool.or_eq_true, Bool.and_eq_true, decide_eq_true_eq]
  constructor <;> intro h <;> omega
theorem insL_late {e : Int × Int} {r : List (Int × Int)} : ∀ {l : List (Int × Int)}, l.any (ltb e) = false → insL e (l ++ r) = l ++ insL e r
  | [], _ => rfl
  | a :: l, h => by
    rw [List.any_cons, Bool.or_eq_false_iff] at h
    rw [List.cons_append, insL, if_neg (fun hc => by rw [← ltb_iff, h.1] at hc; cases hc), insL_late h.2]
    rfl
theorem insL_done {e : Int × Int} {r : List (Int × Int)} : ∀ {l : List (Int × Int)}, l.any (ltb e) = true → insL e (l ++ r) = insL e l ++ r
  | [], h => by cases h
  | a :: l, h => by
    rw [List.any_cons] at h
    rw [List.cons_append, insL, insL]
    by_cases hc : e.1 < a.1 ∨ (e.1 = a.1 ∧ e.2 < a.2)
    · rw [if_pos hc, if_pos hc]; rfl
    · rw [if_neg hc, if_neg hc, insL_done (by
        rcases Bool.or_eq_true_iff.1 h with h | h
        · exact absurd ((ltb_iff _ _).1 h) hc
        · exact h)]
      rfl

theorem placed_spec {w : World} {v : Value} {L : List (Int × Int)} (hv : RdF w v L) (hl : L.length ≤ 65537) (e : Int × Int) {K : Value → World → Prop}
    (k : ∀ v' hp' w', OwnF v' (insL e L) hp' → St w no hp' w' → K v' w') : F39 v (frV e) w K := by
  unfold F39
  refine pE_boxc (St.nil w no) (frow e) rfl (fun b w1 hs1 _ _ => ?_)
  refine pLoop_up (I := fun i vs w' => ∃ v' hp', vs = [v', .bool ((L.take i).any (ltb e)), .int .i64 (i : Nat)] ∧ OwnF v' (if (L.take i).any (ltb e) then insL e (L.take i) else L.take i) hp' ∧ St w no (hp' ++ [(b, ⟨frow e, (.t 34)⟩)]) w') L.length 0 (Nat.zero_le _) ⟨_, [], rfl, ownS_nil _ _, hs1⟩ ?_
  rintro i vs w2 hi ⟨v1, hp1, rfl, ho1, hs2⟩ go hgo
  have hlen : (if (L.take i).any (ltb e) then insL e (L.take i) else L.take i).length ≤ 65538 := by
    split
    · rw [insL_len, List.length_take]; omega
    · rw [List.length_take]; omega
  try simp (disch := omega) only [pV_some, pE_some, pU_some, st_add, st_sub, st_mul, st_quo, st_rem, st_eql, st_neq, st_lss, st_leq, st_gtr, st_geq, st_seq, st_sneq, st_beq, st_bneq, st_not, st_neg, st_lenS, st_capS, st_lenT, st_fldA, st_conv, st_pick, st_ext0, st_ext1, st_ext2, st_ext3, st_nilS, st_nilP, st_nilF, st_nilE, st_nilN, st_none, st_some, st_true, st_false, nilC, add_lit, Nat.zero_add, Nat.add_zero, nth0, nth1, nth2, nth3, nth4, nth5, nth6, List.getElem?_cons_succ, List.getElem?_cons_zero, cond_true, cond_false, pSC_orp, pSC_andp, wrap_i64, Bool.not_true, Bool.not_false, hv.len]
  refine pIf_of (fun hlt => ?_) (fun hlt => ?_)
  · have hlt : i < L.length := by simpa using hlt
    have hx := List.getElem?_eq_getElem hlt
    refine pDraw_st hs2 (fun w3 hs3 _ => ?_)
    have hB : Has w3 b ⟨frow e, (.t 34)⟩ := hs3.has (b, ⟨frow e, (.t 34)⟩) (by simp)
    obtain ⟨ad, i1, c1⟩ := RdC.fat (hv.gr hs3.tr) hx (x := i) rfl
    have hany : (L.take (i + 1)).any (ltb e) = ((L.take i).any (ltb e) || ltb e L[i]) := by rw [take_snoc hx, List.any_append]; simp
    have hl0 : ldV false 1 w3 (.pointer (some ⟨b, 0, none⟩)) = some (.int .i64 e.1) := hB.ld 0 1
    have hl1 : ldV false 1 w3 (.pointer (some ⟨b, 1, none⟩)) = some (.int .i64 e.2) := hB.ld 1 1
    have hlw : ldV true 2 w3 (.pointer (some ⟨b, 0, none⟩)) = some (frV e) := hB.ldw rfl
    try simp (disch := omega) only [pV_some, pE_some, pU_some, st_add, st_sub, st_mul, st_quo, st_rem, st_eql, st_neq, st_lss, st_leq, st_gtr, st_geq, st_seq, st_sneq, st_beq, st_bneq, st_not, st_neg, st_lenS, st_capS, st_lenT, st_fldA, st_conv, st_pick, st_ext0, st_ext1, st_ext2, st_ext3, st_nilS, st_nilP, st_nilF, st_nilE, st_nilN, st_none, st_some, st_true, st_false, nilC, add_lit, Nat.zero_add, Nat.add_zero, nth0, nth1, nth2, nth3, nth4, nth5, nth6, List.getElem?_cons_succ, List.getElem?_cons_zero, cond_true, cond_false, pSC_orp, pSC_andp, wrap_i64, Bool.not_true, Bool.not_false, i1, c1.fld (j := 0) rfl, c1.fld (j := 1) rfl, hl0, hl1, hlw, fr_ld c1]
    refine pJoin_id ?_
    have hltb : (decide (e.1 < L[i].1) || (decide (L[i].1 = e.1) && decide (e.2 < L[i].2))) = ltb e L[i] := rfl
    rw [hltb]
    refine pIf_of (fun h => ?_) (fun h => ?_)
    · have h : ltb e L[i] = true ∧ (L.take i).any (ltb e) = false := by simpa only [Bool.and_eq_true, Bool.not_eq_true'] using h
      rw [h.2] at ho1
      refine app_fr ho1 hs3 (by have := hlen; rw [h.2] at this; omega) (fun v2 hp2 w4 ho2 hs4 => ?_)
      try simp (disch := omega) only [pV_some, pE_some, pU_some, st_add, st_sub, st_mul, st_quo, st_rem, st_eql, st_neq, st_lss, st_leq, st_gtr, st_geq, st_seq, st_sneq, st_beq, st_bneq, st_not, st_neg, st_lenS, st_capS, st_lenT, st_fldA, st_conv, st_pick, st_ext0, st_ext1, st_ext2, st_ext3, st_nilS, st_nilP, st_nilF, st_nilE, st_nilN, st_none, st_some, st_true, st_false, nilC, add_lit, Nat.zero_add, Nat.add_zero, nth0, nth1, nth2, nth3, nth4, nth5, nth6, List.getElem?_cons_succ, List.getElem?_cons_zero, cond_true, cond_false, pSC_orp, pSC_andp, wrap_i64, Bool.not_true, Bool.not_false, i1, c1.fld (j := 0) rfl]
      have c2 := (hv.gr hs4.tr)
      obtain ⟨ad2, i2, c2⟩ := RdC.fat (hv.gr hs4.tr) hx (x := i) rfl
      obtain rfl : ad2 = ad := by rw [i1] at i2; cases i2; rfl
      try simp (disch := omega) only [pV_some, pE_some, pU_some, st_add, st_sub, st_mul, st_quo, st_rem, st_eql, st_neq, st_lss, st_leq, st_gtr, st_geq, st_seq, st_sneq, st_beq, st_bneq, st_not, st_neg, st_lenS, st_capS, st_lenT, st_fldA, st_conv, st_pick, st_ext0, st_ext1, st_ext2, st_ext3, st_nilS, st_nilP, st_nilF, st_nilE, st_nilN, st_none, st_some, st_true, st_false, nilC, add_lit, Nat.zero_add, Nat.add_zero, nth0, nth1, nth2, nth3, nth4, nth5, nth6, List.getElem?_cons_succ, List.getElem?_cons_zero, cond_true, cond_false, pSC_orp, pSC_andp, wrap_i64, Bool.not_true, Bool.not_false, fr_ld c2]
      refine app_fr ho2 hs4 (by simp; have := hlen; rw [h.2] at this; simp at this; omega) (fun v3 hp3 w5 ho3 hs5 => ?_)
      try simp (disch := omega) only [pV_some, pE_some, pU_some, st_add, st_sub, st_mul, st_quo, st_rem, st_eql, st_neq, st_lss, st_leq, st_gtr, st_geq, st_seq, st_sneq, st_beq, st_bneq, st_not, st_neg, st_lenS, st_capS, st_lenT, st_fldA, st_conv, st_pick, st_ext0, st_ext1, st_ext2, st_ext3, st_nilS, st_nilP, st_nilF, st_nilE, st_nilN, st_none, st_some, st_true, st_false, nilC, add_lit, Nat.zero_add, Nat.add_zero, nth0, nth1, nth2, nth3, nth4, nth5, nth6, List.getElem?_cons_succ, List.getElem?_cons_zero, cond_true, cond_false, pSC_orp, pSC_andp, wrap_i64, Bool.not_true, Bool.not_false]
      refine hgo _ _ hlt ⟨v3, hp3, by rw [hany, h.1, h.2]; simp, ?_, hs5⟩
      have hins : insL e (L.take (i + 1)) = L.take i ++ [e] ++ [L[i]] := by
        rw [take_snoc hx, insL_late h.2, insL, if_pos ((ltb_iff _ _).1 h.1)]; simp
      rw [hany, h.1, h.2, hins]
      exact ho3
    · try simp (disch := omega) only [pV_some, pE_some, pU_some, st_add, st_sub, st_mul, st_quo, st_rem, st_eql, st_neq, st_lss, st_leq, st_gtr, st_geq, st_seq, st_sneq, st_beq, st_bneq, st_not, st_neg, st_lenS, st_capS, st_lenT, st_fldA, st_conv, st_pick, st_ext0, st_ext1, st_ext2, st_ext3, st_nilS, st_nilP, st_nilF, st_nilE, st_nilN, st_none, st_some, st_true, st_false, nilC, add_lit, Nat.zero_add, Nat.add_zero, nth0, nth1, nth2, nth3, nth4, nth5, nth6, List.getElem?_cons_succ, List.getElem?_cons_zero, cond_true, cond_false, pSC_orp, pSC_andp, wrap_i64, Bool.not_true, Bool.not_false, i1, fr_ld c1]
      refine app_fr ho1 hs3 (by omega) (fun v3 hp3 w5 ho3 hs5 => ?_)
      try simp (disch := omega) only [pV_some, pE_some, pU_some, st_add, st_sub, st_mul, st_quo, st_rem, st_eql, st_neq, st_lss, st_leq, st_gtr, st_geq, st_seq, st_sneq, st_beq, st_bneq, st_not, st_neg, st_lenS, st_capS, st_lenT, st_fldA, st_conv, st_pick, st_ext0, st_ext1, st_ext2, st_ext3, st_nilS, st_nilP, st_nilF, st_nilE, st_nilN, st_none, st_some, st_true, st_false, nilC, add_lit, Nat.zero_add, Nat.add_zero, nth0, nth1, nth2, nth3, nth4, nth5, nth6, List.getElem?_cons_succ, List.getElem?_cons_zero, cond_true, cond_false, pSC_orp, pSC_andp, wrap_i64, Bool.not_true, Bool.not_false]
      cases hd : (L.take i).any (ltb e) with
      | true =>
        rw [hd] at ho3
        refine hgo _ _ hlt ⟨v3, hp3, by rw [hany, hd]; simp, ?_, hs5⟩
        rw [hany, hd, take_snoc hx]
        simp only [Bool.true_or, if_true]
        rw [insL_done hd]
        exact ho3
      | false =>
        rw [hd] at ho3
        have hf : ltb e L[i] = false := by rw [hd] at h; simpa using h
        refine hgo _ _ hlt ⟨v3, hp3, by rw [hany, hd, hf]; simp, ?_, hs5⟩
        rw [hany, hd, hf, take_snoc hx]
        exact ho3
  · obtain rfl : i = L.length := by simp at hlt; omega
    rw [List.take_length] at ho1 hlen ⊢
    refine pJoin_id ?_
    have hB : Has w2 b ⟨frow e, (.t 34)⟩ := hs2.has (b, ⟨frow e, (.t 34)⟩) (by simp)
    have hlw : ldV true 2 w2 (.pointer (some ⟨b, 0, none⟩)) = some (frV e) := hB.ldw rfl
    try simp (disch := omega) only [pV_some, pE_some, pU_some, st_add, st_sub, st_mul, st_quo, st_rem, st_eql, st_neq, st_lss, st_leq, st_gtr, st_geq, st_seq, st_sneq, st_beq, st_bneq, st_not, st_neg, st_lenS, st_capS, st_lenT, st_fldA, st_conv, st_pick, st_ext0, st_ext1, st_ext2, st_ext3, st_nilS, st_nilP, st_nilF, st_nilE, st_nilN, st_none, st_some, st_true, st_false, nilC, add_lit, Nat.zero_add, Nat.add_zero, nth0, nth1, nth2, nth3, nth4, nth5, nth6, List.getElem?_cons_succ, List.getElem?_cons_zero, cond_true, cond_false, pSC_orp, pSC_andp, wrap_i64, Bool.not_true, Bool.not_false, hlw]
    cases hd : L.any (ltb e) with
    | true =>
      rw [hd] at ho1
      try simp (disch := omega) only [pV_some, pE_some, pU_some, st_add, st_sub, st_mul, st_quo, st_rem, st_eql, st_neq, st_lss, st_leq, st_gtr, st_geq, st_seq, st_sneq, st_beq, st_bneq, st_not, st_neg, st_lenS, st_capS, st_lenT, st_fldA, st_conv, st_pick, st_ext0, st_ext1, st_ext2, st_ext3, st_nilS, st_nilP, st_nilF, st_nilE, st_nilN, st_none, st_some, st_true, st_false, nilC, add_lit, Nat.zero_add, Nat.add_zero, nth0, nth1, nth2, nth3, nth4, nth5, nth6, List.getElem?_cons_succ, List.getElem?_cons_zero, cond_true, cond_false, pSC_orp, pSC_andp, wrap_i64, Bool.not_true, Bool.not_false]
      exact k _ _ _ ho1 (hs2.re (fun _ => by simp only [cnt_nil, cnt_cons, cnt_append]; omega))
    | false =>
      rw [hd] at ho1 hlen
      try simp (disch := omega) only [pV_some, pE_some, pU_some, st_add, st_sub, st_mul, st_quo, st_rem, st_eql, st_neq, st_lss, st_leq, st_gtr, st_geq, st_seq, st_sneq, st_beq, st_bneq, st_not, st_neg, st_lenS, st_capS, st_lenT, st_fldA, st_conv, st_pick, st_ext0, st_ext1, st_ext2, st_ext3, st_nilS, st_nilP, st_nilF, st_nilE, st_nilN, st_none, st_some, st_true, st_false, nilC, add_lit, Nat.zero_add, Nat.add_zero, nth0, nth1, nth2, nth3, nth4, nth5, nth6, List.getElem?_cons_succ, List.getElem?_cons_zero, cond_true, cond_false, pSC_orp, pSC_andp, wrap_i64, Bool.not_true, Bool.not_false]
      refine app_fr ho1 hs2 (by have := hlen; simp at this ⊢; omega) (fun v3 hp3 w5 ho3 hs5 => ?_)
      try simp (disch := omega) only [pV_some, pE_some, pU_some, st_add, st_sub, st_mul, st_quo, st_rem, st_eql, st_neq, st_lss, st_leq, st_gtr, st_geq, st_seq, st_sneq, st_beq, st_bneq, st_not, st_neg, st_lenS, st_capS, st_lenT, st_fldA, st_conv, st_pick, st_ext0, st_ext1, st_ext2, st_ext3, st_nilS, st_nilP, st_nilF, st_nilE, st_nilN, st_none, st_some, st_true, st_false, nilC, add_lit, Nat.zero_add, Nat.add_zero, nth0, nth1, nth2, nth3, nth4, nth5, nth6, List.getElem?_cons_succ, List.getElem?_cons_zero, cond_true, cond_false, pSC_orp, pSC_andp, wrap_i64, Bool.not_true, Bool.not_false]
      have := insL_late (e := e) (r := []) hd
      rw [List.append_nil] at this
      rw [this] at k
      exact k _ _ _ ho3 (hs5.re (fun _ => by simp only [cnt_nil, cnt_cons, cnt_append]; omega))

def lkL (id : Int) (L : List (Int × Int)) : Option Int := (L.find? fun e => decide (e.2 = id)).map (·.1)
theorem lkL_hit {id : Int} {L : List (Int × Int)} {i : Nat} {e : Int × Int} (h : ∀ a ∈ L.take i, a.2 ≠ id) (hx : L[i]? = some e) (he : e.2 = id) : lkL id L = some e.1 := by
  unfold lkL
  rw [← List.take_append_drop i L, List.find?_append, List.find?_eq_none.2 (fun a ha => by simpa using h a ha), drop_head hx, List.find?_cons_of_pos (by simpa using he)]
  rfl
theorem lkL_none {id : Int} {L : List (Int × Int)} (h : ∀ a ∈ L, a.2 ≠ id) : lkL id L = none := by
  unfold lkL
  rw [List.find?_eq_none.2 (fun a ha => by simpa using h a ha)]; rfl
theorem lkL_abs {T L : List (Int × Int)} (h : Abs T L) (hn : (mkeys T).Nodup) (id : Int) : lkL id L = mget T id := by
  unfold lkL
  cases hf : L.find? fun e => decide (e.2 = id) with
  | none =>
    rw [List.find?_eq_none] at hf
    cases hg : mget T id with
    | none => rfl
    | some t => exact absurd ((h.mem hn).2 hg) (fun hm => by have := hf _ hm; simp at this)
  | some e =>
    have h1 := List.mem_of_find?_eq_some hf
    have h2 := List.find?_some hf
    obtain ⟨t, id2⟩ := e
    simp at h2
    subst h2
    rw [(h.mem hn).1 h1]; rfl

abbrev wV (now : Int) (v : Value) : Value := .agg #[.int .i64 now, v]
theorem whenR_spec {w : World} {v : Value} {L : List (Int × Int)} (hv : RdF w v L) (hl : L.length ≤ 65537) (now id : Int) {K : Value → World → Prop}
    (k : ∀ w', St w no [] w' → K (.tuple #[.int .i64 ((lkL id L).getD 0), .bool (lkL id L).isSome]) w') : F34 (wV now v) (.int .i64 id) w K := by
  unfold F34
  obtain ⟨sa, sc, hve⟩ := hv.slice
  have h1 := hv.one
  refine pE_boxc (St.nil w no) [.int .i64 now, v] (by subst hve; rfl) (fun b w1 hs1 _ _ => ?_)
  refine pLoop_up (I := fun i vs w' => vs = [.int .i64 (i : Nat)] ∧ (∀ a ∈ L.take i, a.2 ≠ id) ∧ St w no [(b, ⟨[.int .i64 now, v], (.t 47)⟩)] w') L.length 0 (Nat.zero_le _) ⟨rfl, by simp, hs1⟩ ?_
  rintro i vs w2 hi ⟨rfl, hno, hs2⟩ go hgo
  have hl1 : ldV false 1 w2 (.pointer (some ⟨b, 1, none⟩)) = some v := hs2.top.ld 1 1
  try simp (disch := omega) only [pV_some, pE_some, pU_some, st_add, st_sub, st_mul, st_quo, st_rem, st_eql, st_neq, st_lss, st_leq, st_gtr, st_geq, st_seq, st_sneq, st_beq, st_bneq, st_not, st_neg, st_lenS, st_capS, st_lenT, st_fldA, st_conv, st_pick, st_ext0, st_ext1, st_ext2, st_ext3, st_nilS, st_nilP, st_nilF, st_nilE, st_nilN, st_none, st_some, st_true, st_false, nilC, add_lit, Nat.zero_add, Nat.add_zero, nth0, nth1, nth2, nth3, nth4, nth5, nth6, List.getElem?_cons_succ, List.getElem?_cons_zero, cond_true, cond_false, pSC_orp, pSC_andp, wrap_i64, Bool.not_true, Bool.not_false, hl1, hv.len]
  refine pIf_of (fun hlt => ?_) (fun hlt => ?_)
  · have hlt : i < L.length := by simpa using hlt
    have hx := List.getElem?_eq_getElem hlt
    obtain ⟨ad, i1, c1⟩ := RdC.fat (hv.gr hs2.tr) hx (x := i) rfl
    try simp (disch := omega) only [pV_some, pE_some, pU_some, st_add, st_sub, st_mul, st_quo, st_rem, st_eql, st_neq, st_lss, st_leq, st_gtr, st_geq, st_seq, st_sneq, st_beq, st_bneq, st_not, st_neg, st_lenS, st_capS, st_lenT, st_fldA, st_conv, st_pick, st_ext0, st_ext1, st_ext2, st_ext3, st_nilS, st_nilP, st_nilF, st_nilE, st_nilN, st_none, st_some, st_true, st_false, nilC, add_lit, Nat.zero_add, Nat.add_zero, nth0, nth1, nth2, nth3, nth4, nth5, nth6, List.getElem?_cons_succ, List.getElem?_cons_zero, cond_true, cond_false, pSC_orp, pSC_andp, wrap_i64, Bool.not_true, Bool.not_false, i1, c1.fld (j := 0) rfl, c1.fld (j := 1) rfl]
    refine pIf_of (fun h => ?_) (fun h => ?_)
    · have h : L[i].2 = id := by simpa using h
      have := k w2 (hs2.re (fun _ => by simp only [cnt_nil, cnt_cons, cnt_append]; omega))
      rw [lkL_hit hno hx h] at this
      exact this
    · have h : L[i].2 ≠ id := by simpa using h
      refine hgo _ _ hlt ⟨by simp, ?_, hs2⟩
      rw [take_snoc hx]
      intro a ha
      rcases List.mem_append.1 ha with ha | ha
      · exact hno a ha
      · simp at ha; subst ha; exact h
  · obtain rfl : i = L.length := by simp at hlt; omega
    rw [List.take_length] at hno
    have := k w2 (hs2.re (fun _ => by simp only [cnt_nil, cnt_cons, cnt_append]; omega))
    rw [lkL_none hno] at this
    exact this
theorem nextR_spec {w : World} {v : Value} {L : List (Int × Int)} (hv : RdF w v L) (now : Int) {K : Value → World → Prop}
    (k1 : L = [] → ∀ w', St w no [] w' → K (.tuple #[.int .i64 0, .bool false]) w')
    (k2 : ∀ e L', L = e :: L' → ∀ w', St w no [] w' → K (.tuple #[.int .i64 e.1, .bool true]) w') : F35 (wV now v) w K := by
  unfold F35
  obtain ⟨sa, sc, hve⟩ := hv.slice
  refine pE_boxc (St.nil w no) [.int .i64 now, v] (by subst hve; rfl) (fun b w1 hs1 _ _ => ?_)
  have hl1 : ldV false 1 w1 (.pointer (some ⟨b, 1, none⟩)) = some v := hs1.top.ld 1 1
  try simp (disch := omega) only [pV_some, pE_some, pU_some, st_add, st_sub, st_mul, st_quo, st_rem, st_eql, st_neq, st_lss, st_leq, st_gtr, st_geq, st_seq, st_sneq, st_beq, st_bneq, st_not, st_neg, st_lenS, st_capS, st_lenT, st_fldA, st_conv, st_pick, st_ext0, st_ext1, st_ext2, st_ext3, st_nilS, st_nilP, st_nilF, st_nilE, st_nilN, st_none, st_some, st_true, st_false, nilC, add_lit, Nat.zero_add, Nat.add_zero, nth0, nth1, nth2, nth3, nth4, nth5, nth6, List.getElem?_cons_succ, List.getElem?_cons_zero, cond_true, cond_false, pSC_orp, pSC_andp, wrap_i64, Bool.not_true, Bool.not_false, hl1, hv.len]
  match L, hv, k1, k2 with
  | [], hv, k1, k2 =>
    refine pIf_of (fun h => ?_) (fun h => by simp at h)
    exact k1 rfl w1 (hs1.re (fun _ => by simp only [cnt_nil, cnt_cons, cnt_append]; omega))
  | e :: L', hv, k1, k2 =>
    refine pIf_of (fun h => by simp at h; omega) (fun h => ?_)
    obtain ⟨ad, i1, c1⟩ := RdC.fat (hv.gr hs1.tr) (i := 0) (e := e) rfl (x := 0) rfl
    try simp (disch := omega) only [pV_some, pE_some, pU_some, st_add, st_sub, st_mul, st_quo, st_rem, st_eql, st_neq, st_lss, st_leq, st_gtr, st_geq, st_seq, st_sneq, st_beq, st_bneq, st_not, st_neg, st_lenS, st_capS, st_lenT, st_fldA, st_conv, st_pick, st_ext0, st_ext1, st_ext2, st_ext3, st_nilS, st_nilP, st_nilF, st_nilE, st_nilN, st_none, st_some, st_true, st_false, nilC, add_lit, Nat.zero_add, Nat.add_zero, nth0, nth1, nth2, nth3, nth4, nth5, nth6, List.getElem?_cons_succ, List.getElem?_cons_zero, cond_true, cond_false, pSC_orp, pSC_andp, wrap_i64, Bool.not_true, Bool.not_false, i1, c1.fld (j := 0) rfl]
    exact k2 e L' rfl w1 (hs1.re (fun _ => by simp only [cnt_nil, cnt_cons, cnt_append]; omega))
end Go.Proofs.Ytbbjljhbiaeadaa
