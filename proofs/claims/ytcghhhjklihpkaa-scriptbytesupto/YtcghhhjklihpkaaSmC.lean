/- script: SameInput and Same answer whether two inputs, two lists are the same. -/
import Derived.Test.YtcghhhjklihpkaaSmB
set_option linter.unusedSimpArgs false
set_option linter.unusedVariables false
namespace Go.Proofs.Ytcghhhjklihpkaa
open Go.Bk Go.RowKit

theorem sameInput_spec {w : World} {p q : In × Value} (hp : RdI w p.2 p.1.d) (hq : RdI w q.2 q.1.d) (hb : p.1.d.length ≤ 2147483647) {K : Value → World → Prop}
    (k : ∀ w', St w no [] w' → K (.bool (decide (p.1 = q.1))) w') : F20 (inV p) (inV q) w K := by
  unfold F20
  refine pE_boxc (St.nil w no) [.int .i64 p.1.t, .int .i64 p.1.k, .int .i64 p.1.g, p.2] rfl (fun b1 w1 hs1 ht1 _ => ?_)
  refine pE_boxc hs1 [.int .i64 q.1.t, .int .i64 q.1.k, .int .i64 q.1.g, q.2] rfl (fun b2 w2 hs2 ht2 _ => ?_)
  have hB := hs2.top2
  have hC := hs2.top
  simp (disch := omega) only [pV_some, pE_some, pU_some, st_add, st_sub, st_mul, st_quo, st_rem, st_eql, st_neq, st_lss, st_leq, st_gtr, st_geq, st_seq, st_sneq, st_beq, st_bneq, st_not, st_neg, st_lenS, st_capS, st_lenT, st_fldA, st_conv, st_pick, st_ext0, st_ext1, st_ext2, st_ext3, st_nilS, st_nilP, st_nilF, st_nilE, st_nilN, st_none, st_some, st_true, st_false, nilC, add_lit, Nat.zero_add, Nat.add_zero, nth0, nth1, nth2, nth3, nth4, nth5, nth6, List.getElem?_cons_succ, List.getElem?_cons_zero, cond_true, cond_false, pSC_orp, pSC_andp, wrap_i64, Bool.not_true, Bool.not_false, hB.ld, hC.ld, hp.len, hq.len]
  refine pIf_of (fun h => ?_) (fun h => ?_)
  · have : p.1 ≠ q.1 := by
      intro e; rw [e] at h; simp at h
    rw [show false = decide (p.1 = q.1) by simp [this]]
    exact k _ (hs2.re (fun _ => by simp only [cnt_nil, cnt_cons, cnt_append]; omega))
  · have hh : p.1.t = q.1.t ∧ p.1.k = q.1.k ∧ p.1.g = q.1.g ∧ p.1.d.length = q.1.d.length := by
      simp [bne_dec] at h; omega
    refine pLoop_up (I := fun i vs w' => vs = [.int .i64 i] ∧ St w2 no [] w' ∧ p.1.d.take i = q.1.d.take i) p.1.d.length 0 (Nat.zero_le _) ⟨rfl, St.nil _ _, rfl⟩ ?_
    rintro i vs w' hi ⟨rfl, hs, he⟩ go hgo
    have hs' := hs2.call hs
    have hB := hB.cell
    have hB' : Has w' b1 _ := hs'.top2
    have hC' : Has w' b2 _ := hs'.top
    simp (disch := omega) only [pV_some, pE_some, pU_some, st_add, st_sub, st_mul, st_quo, st_rem, st_eql, st_neq, st_lss, st_leq, st_gtr, st_geq, st_seq, st_sneq, st_beq, st_bneq, st_not, st_neg, st_lenS, st_capS, st_lenT, st_fldA, st_conv, st_pick, st_ext0, st_ext1, st_ext2, st_ext3, st_nilS, st_nilP, st_nilF, st_nilE, st_nilN, st_none, st_some, st_true, st_false, nilC, add_lit, Nat.zero_add, Nat.add_zero, nth0, nth1, nth2, nth3, nth4, nth5, nth6, List.getElem?_cons_succ, List.getElem?_cons_zero, cond_true, cond_false, pSC_orp, pSC_andp, wrap_i64, Bool.not_true, Bool.not_false, hB'.ld, hC'.ld, hp.len, hq.len]
    refine pIf_of (fun hlt => ?_) (fun hlt => ?_)
    · have hlt : i < p.1.d.length := by simpa using hlt
      refine pDraw_st hs' (fun w3 hs3 ht3 => ?_)
      have hp1 := List.getElem?_eq_getElem hlt
      have hq1 := List.getElem?_eq_getElem (hh.2.2.2 ▸ hlt)
      obtain ⟨a1, i1, c1⟩ := (((hp.gr hs'.tr).gr ht3)).at1 (ints_at hp1) (x := i) rfl
      obtain ⟨a2, i2, c2⟩ := (((hq.gr hs'.tr).gr ht3)).at1 (ints_at hq1) (x := i) rfl
      simp (disch := omega) only [pV_some, pE_some, pU_some, st_add, st_sub, st_mul, st_quo, st_rem, st_eql, st_neq, st_lss, st_leq, st_gtr, st_geq, st_seq, st_sneq, st_beq, st_bneq, st_not, st_neg, st_lenS, st_capS, st_lenT, st_fldA, st_conv, st_pick, st_ext0, st_ext1, st_ext2, st_ext3, st_nilS, st_nilP, st_nilF, st_nilE, st_nilN, st_none, st_some, st_true, st_false, nilC, add_lit, Nat.zero_add, Nat.add_zero, nth0, nth1, nth2, nth3, nth4, nth5, nth6, List.getElem?_cons_succ, List.getElem?_cons_zero, cond_true, cond_false, pSC_orp, pSC_andp, wrap_i64, Bool.not_true, Bool.not_false, hs3.top2.ld, hs3.top.ld, i1, i2, ld1r c1, ld1r c2]
      refine pIf_of (fun h => ?_) (fun h => ?_)
      · have : p.1 ≠ q.1 := by
          intro e
          have : p.1.d[i] = q.1.d[i]'(hh.2.2.2 ▸ hlt) := by simp [e]
          rw [this] at h; simp at h
        rw [show false = decide (p.1 = q.1) by simp [this]]
        exact k _ (hs3.re (fun _ => by simp only [cnt_nil, cnt_cons, cnt_append]; omega))
      · refine hgo _ _ hlt ⟨by simp, (hs.gr ht3), ?_⟩
        rw [List.take_add_one, List.take_add_one, he, hp1, hq1]
        simp at h
        simp [h]
    · have hi' : i = p.1.d.length := by simp at hlt; omega
      subst hi'
      have : p.1 = q.1 := by
        have h1 := he
        rw [List.take_length, hh.2.2.2, List.take_length] at h1
        exact In.eq hh.1 hh.2.1 hh.2.2.1 h1
      rw [show true = decide (p.1 = q.1) by simp [this]]
      exact k _ (hs'.re (fun _ => by simp only [cnt_nil, cnt_cons, cnt_append]; omega))

theorem same_spec {w : World} {v u : Value} {ps qs : List (In × Value)} (hp : InsR w v ps) (hq : InsR w u qs) (hb : ∀ p ∈ ps, p.1.d.length ≤ 2147483647) (hn : ps.length ≤ 1073741824) {K : Value → World → Prop}
    (k : ∀ w', St w no [] w' → K (.bool (decide (ps.map (·.1) = qs.map (·.1)))) w') : F10 v u w K := by
  unfold F10
  simp (disch := omega) only [pV_some, pE_some, pU_some, st_add, st_sub, st_mul, st_quo, st_rem, st_eql, st_neq, st_lss, st_leq, st_gtr, st_geq, st_seq, st_sneq, st_beq, st_bneq, st_not, st_neg, st_lenS, st_capS, st_lenT, st_fldA, st_conv, st_pick, st_ext0, st_ext1, st_ext2, st_ext3, st_nilS, st_nilP, st_nilF, st_nilE, st_nilN, st_none, st_some, st_true, st_false, nilC, add_lit, Nat.zero_add, Nat.add_zero, nth0, nth1, nth2, nth3, nth4, nth5, nth6, List.getElem?_cons_succ, List.getElem?_cons_zero, cond_true, cond_false, pSC_orp, pSC_andp, wrap_i64, Bool.not_true, Bool.not_false, hp.c.len, hq.c.len]
  refine pIf_of (fun h => ?_) (fun h => ?_)
  · have : ps.map (·.1) ≠ qs.map (·.1) := by
      intro e
      have := congrArg List.length e
      simp at this h
      omega
    rw [show false = decide (ps.map (·.1) = qs.map (·.1)) by simp [this]]
    exact k _ (St.nil w no)
  · have hl : ps.length = qs.length := by simp at h; omega
    refine pLoop_up (I := fun i vs w' => vs = [.int .i64 i] ∧ St w no [] w' ∧ (ps.map (·.1)).take i = (qs.map (·.1)).take i) ps.length 0 (Nat.zero_le _) ⟨rfl, St.nil _ _, rfl⟩ ?_
    rintro i vs w' hi ⟨rfl, hs, he⟩ go hgo
    simp (disch := omega) only [pV_some, pE_some, pU_some, st_add, st_sub, st_mul, st_quo, st_rem, st_eql, st_neq, st_lss, st_leq, st_gtr, st_geq, st_seq, st_sneq, st_beq, st_bneq, st_not, st_neg, st_lenS, st_capS, st_lenT, st_fldA, st_conv, st_pick, st_ext0, st_ext1, st_ext2, st_ext3, st_nilS, st_nilP, st_nilF, st_nilE, st_nilN, st_none, st_some, st_true, st_false, nilC, add_lit, Nat.zero_add, Nat.add_zero, nth0, nth1, nth2, nth3, nth4, nth5, nth6, List.getElem?_cons_succ, List.getElem?_cons_zero, cond_true, cond_false, pSC_orp, pSC_andp, wrap_i64, Bool.not_true, Bool.not_false]
    refine pIf_of (fun hlt => ?_) (fun hlt => ?_)
    · have hlt : i < ps.length := by simpa using hlt
      refine pDraw_st hs (fun w3 hs3 ht3 => ?_)
      have hp1 := List.getElem?_eq_getElem hlt
      have hq1 := List.getElem?_eq_getElem (hl ▸ hlt)
      obtain ⟨a1, i1, c1⟩ := (hp.gr hs3.tr).at hp1 (x := i) rfl
      obtain ⟨a2, i2, c2⟩ := (hq.gr hs3.tr).at hq1 (x := i) rfl
      simp (disch := omega) only [pV_some, pE_some, pU_some, st_add, st_sub, st_mul, st_quo, st_rem, st_eql, st_neq, st_lss, st_leq, st_gtr, st_geq, st_seq, st_sneq, st_beq, st_bneq, st_not, st_neg, st_lenS, st_capS, st_lenT, st_fldA, st_conv, st_pick, st_ext0, st_ext1, st_ext2, st_ext3, st_nilS, st_nilP, st_nilF, st_nilE, st_nilN, st_none, st_some, st_true, st_false, nilC, add_lit, Nat.zero_add, Nat.add_zero, nth0, nth1, nth2, nth3, nth4, nth5, nth6, List.getElem?_cons_succ, List.getElem?_cons_zero, cond_true, cond_false, pSC_orp, pSC_andp, wrap_i64, Bool.not_true, Bool.not_false, i1, i2, row_ld c1, row_ld c2]
      refine F20_pc (sameInput_spec ((hp.d _ (List.getElem_mem hlt)).gr hs3.tr) ((hq.d _ (List.getElem_mem (hl ▸ hlt))).gr hs3.tr) (hb _ (List.getElem_mem hlt)) (fun w4 hs4 => ?_))
      simp (disch := omega) only [pV_some, pE_some, pU_some, st_add, st_sub, st_mul, st_quo, st_rem, st_eql, st_neq, st_lss, st_leq, st_gtr, st_geq, st_seq, st_sneq, st_beq, st_bneq, st_not, st_neg, st_lenS, st_capS, st_lenT, st_fldA, st_conv, st_pick, st_ext0, st_ext1, st_ext2, st_ext3, st_nilS, st_nilP, st_nilF, st_nilE, st_nilN, st_none, st_some, st_true, st_false, nilC, add_lit, Nat.zero_add, Nat.add_zero, nth0, nth1, nth2, nth3, nth4, nth5, nth6, List.getElem?_cons_succ, List.getElem?_cons_zero, cond_true, cond_false, pSC_orp, pSC_andp, wrap_i64, Bool.not_true, Bool.not_false]
      refine pIf_of (fun h => ?_) (fun h => ?_)
      · have : ps.map (·.1) ≠ qs.map (·.1) := by
          intro e
          have h0 : (ps.map (·.1))[i]? = (qs.map (·.1))[i]? := by rw [e]
          rw [List.getElem?_map, List.getElem?_map, hp1, hq1] at h0
          simp at h h0
          exact h h0
        rw [show false = decide (ps.map (·.1) = qs.map (·.1)) by simp [this]]
        exact k _ ((hs3.call hs4).re (fun _ => by simp only [cnt_nil, cnt_cons, cnt_append]; omega))
      · refine hgo _ _ hlt ⟨by simp, (hs3.call hs4).re (fun _ => by simp only [cnt_nil, cnt_cons, cnt_append]; omega), ?_⟩
        rw [List.take_add_one, List.take_add_one, he, List.getElem?_map, List.getElem?_map, hp1, hq1]
        simp at h
        simp [h]
    · have hi' : i = ps.length := by simp at hlt; omega
      subst hi'
      have : ps.map (·.1) = qs.map (·.1) := by
        rw [List.take_of_length_le (by simp), List.take_of_length_le (by simp; omega)] at he
        exact he
      rw [show true = decide (ps.map (·.1) = qs.map (·.1)) by simp [this]]
      exact k _ hs
end Go.Proofs.Ytcghhhjklihpkaa
