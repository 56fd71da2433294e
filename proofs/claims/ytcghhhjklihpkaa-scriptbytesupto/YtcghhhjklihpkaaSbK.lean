/- script: lists read; what is inside a seal; Decode. -/
import Derived.Test.YtcghhhjklihpkaaSbJ
import Derived.Laws.BytesArg
import Derived.Laws.IdiomStrings
import Derived.Laws.Strings
set_option linter.unusedSimpArgs false
set_option linter.unusedVariables false
namespace Go.Proofs.Ytcghhhjklihpkaa
open Go.Bk Go.RowKit

theorem getList_gen {α : Type} {w0 : World} {b : Nat} (g : RS → α × RS) (Own : Value → List α → HP → Prop) (hnil : Own (.slice none 0 0) [] []) (most : Nat) (hmost : most ≤ 4194316)
    (A C : Value → World → (Value → World → Prop) → Prop)
    (stepA : ∀ s v xs hp h w K', Own v xs hp → RrSt w0 b s (hp ++ h) w → xs.length ≤ 4194316 → (∀ v' hp' w', Own v' (xs ++ [(g s).1]) hp' → RrSt w0 b (g s).2 (hp' ++ h) w' → K' v' w') → A v w K')
    (stepC : ∀ v xs hp w K', Own v xs hp → (∀ v', Own v' xs hp → K' v' w) → C v w K')
    {s : RS} {hh : HP} {w : World} (hw : RrSt w0 b s hh w) {K : Value → World → Prop}
    (k : ∀ v' hp w', Own v' (getList most g s).1 hp → RrSt w0 b (getList most g s).2 (hp ++ hh) w' → K v' w') :
    pV (nilC (.pointer (some ⟨b, 0, none⟩))) fun t11_1 =>
    pV (fldA 1 t11_1) fun t12_2 =>
    pV (ldV false 1 w t12_2) fun t13_3 =>
    pV (binV .neq t13_3 (.int .i64 0)) fun t14_4 =>
    pIf t14_4
    (K (.slice none 0 0) w)
    (pV (nilC (.pointer (some ⟨b, 0, none⟩))) fun t16_5 =>
      pV (ldV true 2 w t16_5) fun t17_6 =>
      pE (boxE RT (.agg #[(.slice none 0 0), (.int .i64 0)]) w) fun t7_7 w =>
      pU (stE 2 t7_7 t17_6 w) fun w =>
      pCall Try.prog 26 [t7_7] w fun t18_8 w =>
      pV (fldA 1 t7_7) fun t20_9 =>
      pV (ldV false 1 w t20_9) fun t21_10 =>
      pV (binV .neq t21_10 (.int .i64 0)) fun t22_11 =>
      pIf t22_11
      (pV (fldA 1 t7_7) fun t24_12 =>
        pV (ldV false 1 w t24_12) fun t25_13 =>
        pV (nilC (.pointer (some ⟨b, 0, none⟩))) fun t26_14 =>
        pV (fldA 1 t26_14) fun t27_15 =>
        pU (stE 1 t27_15 t25_13 w) fun w =>
        K (.slice none 0 0) w)
      (pV (binV .gtr t18_8 (.int .i64 most)) fun t31_16 =>
        pIf t31_16
        (pV (nilC (.pointer (some ⟨b, 0, none⟩))) fun t33_17 =>
          pV (fldA 1 t33_17) fun t34_18 =>
          pU (stE 1 t34_18 (.int .i64 1) w) fun w =>
          K (.slice none 0 0) w)
        (pV (fldA 0 t7_7) fun t37_19 =>
          pV (ldV false 1 w t37_19) fun t38_20 =>
          pV (lenS t38_20) fun t39_21 =>
          pV (binV .gtr t18_8 t39_21) fun t40_22 =>
          pIf t40_22
          (pV (nilC (.pointer (some ⟨b, 0, none⟩))) fun t42_23 =>
            pV (fldA 1 t42_23) fun t43_24 =>
            pU (stE 1 t43_24 (.int .i64 20) w) fun w =>
            K (.slice none 0 0) w)
          (pV (ldV true 2 w t7_7) fun t45_25 =>
            pV (nilC (.pointer (some ⟨b, 0, none⟩))) fun t46_26 =>
            pU (stE 2 t46_26 t45_25 w) fun w =>
            pLoop [(.slice none 0 0), (.int .i64 0)] w fun go1 vs1 w =>
              pV (binV .lss (nth vs1 1) t18_8) fun t49_27 =>
              pIf t49_27
              (A (nth vs1 0) w fun t55_30 w =>
                pV (nilC (.pointer (some ⟨b, 0, none⟩))) fun t57_31 =>
                pV (fldA 1 t57_31) fun t58_32 =>
                pV (ldV false 1 w t58_32) fun t59_33 =>
                pV (binV .neq t59_33 (.int .i64 0)) fun t60_34 =>
                pIf t60_34
                (K (.slice none 0 0) w)
                (pV (binV .add (nth vs1 1) (.int .i64 1)) fun t61_35 =>
                  go1 [t55_30, t61_35] w))
              (C (nth vs1 0) w fun t63_36 w =>
                K t63_36 w))))) := by
  obtain ⟨v, f, hr, hs⟩ := hw
  have e0 : getList most g s = match rd 4 s with
    | (_, none) => ([], none)
    | (n, some r) => if n > most then ([], none) else if n > r.length then ([], none) else many g n (some r) := rfl
  try simp (disch := omega) only [pV_some, pE_some, pU_some, st_add, st_sub, st_mul, st_quo, st_rem, st_eql, st_neq, st_lss, st_leq, st_gtr, st_geq, st_seq, st_sneq, st_beq, st_bneq, st_not, st_neg, st_lenS, st_capS, st_lenT, st_fldA, st_conv, st_pick, st_ext0, st_ext1, st_ext2, st_ext3, st_nilS, st_nilP, st_nilF, st_nilE, st_nilN, st_none, st_some, st_true, st_false, nilC, add_lit, Nat.zero_add, Nat.add_zero, nth0, nth1, nth2, nth3, nth4, nth5, nth6, List.getElem?_cons_succ, List.getElem?_cons_zero, cond_true, cond_false, pSC_orp, pSC_andp, wrap_i64, Bool.not_true, Bool.not_false, hs.top.ld, hs.top.ldw (sz := 2) rfl]
  cases s with
  | none =>
    have hf := hr.1
    refine pIf_of (fun _ => k _ [] w hnil ⟨v, f, hr, hs⟩) (fun h => by simp at h; exact absurd h hf)
  | some l =>
    obtain ⟨rfl, hv, hc, hlen⟩ := hr
    refine pIf_of (fun h => by simp at h) (fun _ => ?_)
    refine pE_boxc hs [.slice none 0 0, .int .i64 0] rfl (fun b2 w2 hs2 _ _ => ?_)
    have hvc := hv.one
    refine pU_st hs2 [v, .int .i64 0] rfl (by simp [Value.cells]) (by
      intro u hu
      simp only [Value.cells, List.mem_cons, List.not_mem_nil, or_false] at hu
      rcases hu with rfl | rfl
      · exact hvc
      · rfl) rfl (fun w3 hs3 _ => ?_)
    have hw3 : RrSt w0 b2 (some l) ((b, ⟨[v, .int .i64 0], RT⟩) :: hh) w3 := ⟨v, 0, ⟨rfl, hv, hc, hlen⟩, hs3⟩
    refine F26_pc (rU32_spec hw3 (fun w4 hw4 hlt => ?_))
    obtain ⟨v4, f4, hr4, hs4⟩ := hw4
    have hs4b : St w0 no ((b, ⟨[v, .int .i64 0], RT⟩) :: hh) w4 := hs4.re (fun _ => by simp only [cnt_nil, cnt_cons, cnt_append]; omega)
    have fail : ∀ e : Int, e ≠ 0 → (getList most g (some l)) = ([], none) → pU (stE 1 (.pointer (some ⟨b, 1, none⟩)) (.int .i64 e) w4) fun w => K (.slice none 0 0) w := by
      intro e he hg
      refine pU_st1 hs4b rfl [v, .int .i64 e] (by simp) rfl (fun w6 hs6 _ => ?_)
      refine k _ [] w6 (by rw [hg]; exact hnil) ?_
      rw [hg]
      exact ⟨v, e, ⟨he, l, hv⟩, hs6⟩
    try simp (disch := omega) only [pV_some, pE_some, pU_some, st_add, st_sub, st_mul, st_quo, st_rem, st_eql, st_neq, st_lss, st_leq, st_gtr, st_geq, st_seq, st_sneq, st_beq, st_bneq, st_not, st_neg, st_lenS, st_capS, st_lenT, st_fldA, st_conv, st_pick, st_ext0, st_ext1, st_ext2, st_ext3, st_nilS, st_nilP, st_nilF, st_nilE, st_nilN, st_none, st_some, st_true, st_false, nilC, add_lit, Nat.zero_add, Nat.add_zero, nth0, nth1, nth2, nth3, nth4, nth5, nth6, List.getElem?_cons_succ, List.getElem?_cons_zero, cond_true, cond_false, pSC_orp, pSC_andp, wrap_i64, Bool.not_true, Bool.not_false, hs4.top.ld, hs4.top.ldw (sz := 2) rfl]
    match hrd : rd 4 (some l) with
    | (n, none) =>
      rw [hrd] at e0 hr4
      refine pIf_of (fun _ => fail f4 hr4.1 e0) (fun h => by simp at h; exact absurd h hr4.1)
    | (n, some r) =>
      rw [hrd] at e0 hr4 hlt
      simp only at e0 hlt
      obtain ⟨rfl, hv4, hc4, hlen4⟩ := hr4
      refine pIf_of (fun h => by simp at h) (fun _ => ?_)
      refine pIf_of (fun h => ?_) (fun h => ?_)
      · have h : most < n := by simp at h; omega
        exact fail 1 (by omega) (by rw [e0, if_pos h])
      have h : ¬ most < n := by simp at h; omega
      rw [if_neg h] at e0
      try simp (disch := omega) only [pV_some, pE_some, pU_some, st_add, st_sub, st_mul, st_quo, st_rem, st_eql, st_neq, st_lss, st_leq, st_gtr, st_geq, st_seq, st_sneq, st_beq, st_bneq, st_not, st_neg, st_lenS, st_capS, st_lenT, st_fldA, st_conv, st_pick, st_ext0, st_ext1, st_ext2, st_ext3, st_nilS, st_nilP, st_nilF, st_nilE, st_nilN, st_none, st_some, st_true, st_false, nilC, add_lit, Nat.zero_add, Nat.add_zero, nth0, nth1, nth2, nth3, nth4, nth5, nth6, List.getElem?_cons_succ, List.getElem?_cons_zero, cond_true, cond_false, pSC_orp, pSC_andp, wrap_i64, Bool.not_true, Bool.not_false, hv4.len]
      refine pIf_of (fun h => ?_) (fun h => ?_)
      · have h : r.length < n := by simp at h; omega
        exact fail 20 (by omega) (by rw [e0, if_pos h])
      have h : ¬ r.length < n := by simp at h; omega
      rw [if_neg h] at e0
      have hvc4 := hv4.one
      refine pU_st hs4b [v4, .int .i64 0] rfl (by simp [Value.cells]) (by
        intro u hu
        have hu : u = v4 ∨ u = .int .i64 0 := by simpa [Value.cells] using hu
        rcases hu with rfl | rfl
        · exact hvc4
        · rfl) rfl (fun w5 hs5 _ => ?_)
      refine pLoop_up (I := fun i vs w' => ∃ (vo : Value) (xs : List α) (hp : HP) (ri : List Nat), vs = [vo, .int .i64 (i : Nat)] ∧ Own vo xs hp ∧ RrSt w0 b (some ri) (hp ++ hh) w' ∧ xs.length = i ∧ many g n (some r) = upto xs (many g (n - i) (some ri))) n 0 (Nat.zero_le _) ⟨_, [], [], r, rfl, hnil, ⟨v4, 0, ⟨rfl, hv4, hc4, hlen4⟩, hs5⟩, rfl, (upto_nil g _ _).symm⟩ ?_
      rintro i vs w6 hi ⟨vo, xs, hp, ri, rfl, ho, hw6, hxl, hm⟩ go hgo
      try simp (disch := omega) only [pV_some, pE_some, pU_some, st_add, st_sub, st_mul, st_quo, st_rem, st_eql, st_neq, st_lss, st_leq, st_gtr, st_geq, st_seq, st_sneq, st_beq, st_bneq, st_not, st_neg, st_lenS, st_capS, st_lenT, st_fldA, st_conv, st_pick, st_ext0, st_ext1, st_ext2, st_ext3, st_nilS, st_nilP, st_nilF, st_nilE, st_nilN, st_none, st_some, st_true, st_false, nilC, add_lit, Nat.zero_add, Nat.add_zero, nth0, nth1, nth2, nth3, nth4, nth5, nth6, List.getElem?_cons_succ, List.getElem?_cons_zero, cond_true, cond_false, pSC_orp, pSC_andp, wrap_i64, Bool.not_true, Bool.not_false]
      refine pIf_of (fun hlt2 => ?_) (fun hlt2 => ?_)
      · have hlt2 : i < n := by simpa using hlt2
        refine stepA _ _ _ _ _ _ _ ho hw6 (by omega) (fun v' hp' w' ho' hw' => ?_)
        have hw'2 := hw'
        obtain ⟨v7, f7, hr7, hs7⟩ := hw'
        try simp (disch := omega) only [pV_some, pE_some, pU_some, st_add, st_sub, st_mul, st_quo, st_rem, st_eql, st_neq, st_lss, st_leq, st_gtr, st_geq, st_seq, st_sneq, st_beq, st_bneq, st_not, st_neg, st_lenS, st_capS, st_lenT, st_fldA, st_conv, st_pick, st_ext0, st_ext1, st_ext2, st_ext3, st_nilS, st_nilP, st_nilF, st_nilE, st_nilN, st_none, st_some, st_true, st_false, nilC, add_lit, Nat.zero_add, Nat.add_zero, nth0, nth1, nth2, nth3, nth4, nth5, nth6, List.getElem?_cons_succ, List.getElem?_cons_zero, cond_true, cond_false, pSC_orp, pSC_andp, wrap_i64, Bool.not_true, Bool.not_false, hs7.top.ld]
        obtain ⟨m, hm2⟩ : ∃ m, n - i = m + 1 := ⟨n - i - 1, by omega⟩
        rw [hm2] at hm
        match hgs : g (some ri) with
        | (a, none) =>
          rw [upto_none g xs hgs] at hm
          rw [hgs] at hr7 hw'2
          refine pIf_of (fun _ => ?_) (fun h => by simp at h; exact absurd h hr7.1)
          refine k _ [] w' (by rw [e0, hm]; exact hnil) ?_
          rw [e0, hm]
          exact hw'2.sub (fun _ => by simp only [cnt_nil, cnt_cons, cnt_append]; omega)
        | (a, some r2) =>
          rw [upto_some g xs hgs] at hm
          rw [hgs] at hr7 hw'2 ho'
          refine pIf_of (fun h => by simp [hr7.1] at h) (fun _ => ?_)
          exact hgo _ _ hlt2 ⟨v', xs ++ [a], hp', r2, by simp, ho', hw'2, by simp [hxl], by rw [show n - (i + 1) = m by omega]; exact hm⟩
      · obtain rfl : i = n := by simp at hlt2; omega
        rw [Nat.sub_self] at hm
        have hm : many g i (some r) = (xs, some ri) := by rw [hm]; simp [many, upto]
        refine stepC _ _ _ _ _ ho (fun v' ho' => ?_)
        exact k v' hp w6 (by rw [e0, hm]; exact ho') (by rw [e0, hm]; exact hw6)

theorem getI_spec {w0 w : World} {b : Nat} {s : RS} {h : HP} (hw : RrSt w0 b s h w) {K : Value → World → Prop}
    (k : ∀ v' hp w', OwnI v' (getList 4194316 rdI s).1 hp → RrSt w0 b (getList 4194316 rdI s).2 (hp ++ h) w' → K v' w') : F48 (.pointer (some ⟨b, 0, none⟩)) (.int .i64 4194316) (.func (.func 47) #[] #[]) w K := by
  unfold F48
  refine getList_gen rdI OwnI (ownS_nil _ _) 4194316 (Nat.le_refl _)
    (fun v w k => pCallV Try.prog (.func (.func 47) #[] #[]) [(.pointer (some ⟨b, 0, none⟩))] w fun t53_28 w => pE (mkE 2 1 [t53_28] w) fun t54_29 w => pE (semE Try.prog (Builtin.append_ #[40, 40] 40 #[v, t54_29]) w) k)
    (fun v w k => pCall Try.prog 59 [v] w k) ?_ ?_ hw k
  · intro s v xs hp h w K' ho hw hl hk
    refine pCallV_func (F47_pc (rI64_spec hw (fun w1 hw1 => ?_)))
    obtain ⟨v1, f1, hr1, hs1⟩ := hw1
    refine app_int (h := (b, ⟨[v1, .int .i64 f1], RT⟩) :: h) ho (hs1.re (fun _ => by simp only [cnt_nil, cnt_cons, cnt_append]; omega)) (by omega) (fun v' hp' w' ho' hs' => ?_)
    exact hk v' hp' w' ho' ⟨v1, f1, hr1, hs'.re (fun _ => by simp only [cnt_nil, cnt_cons, cnt_append]; omega)⟩
  · intro v xs hp w K' ho hk
    refine F59_pc ?_
    unfold F59
    obtain ⟨v', h1, h2⟩ := OwnS.clip ho (x := xs.length) (y := xs.length) rfl rfl
    try simp (disch := omega) only [pV_some, pE_some, pU_some, st_add, st_sub, st_mul, st_quo, st_rem, st_eql, st_neq, st_lss, st_leq, st_gtr, st_geq, st_seq, st_sneq, st_beq, st_bneq, st_not, st_neg, st_lenS, st_capS, st_lenT, st_fldA, st_conv, st_pick, st_ext0, st_ext1, st_ext2, st_ext3, st_nilS, st_nilP, st_nilF, st_nilE, st_nilN, st_none, st_some, st_true, st_false, nilC, add_lit, Nat.zero_add, Nat.add_zero, nth0, nth1, nth2, nth3, nth4, nth5, nth6, List.getElem?_cons_succ, List.getElem?_cons_zero, cond_true, cond_false, pSC_orp, pSC_andp, wrap_i64, Bool.not_true, Bool.not_false, ho.len, h1]
    exact hk v' h2

/-- script.get. -/
theorem get_spec {w0 w : World} {b : Nat} {s : RS} {h : HP} (hw : RrSt w0 b s h w) {K : Value → World → Prop}
    (k : ∀ s' hp w', OwnI s' (getIn s).1.d hp → RrSt w0 b (getIn s).2 (hp ++ h) w' → K (inV ((getIn s).1, s')) w') : F28 (.pointer (some ⟨b, 0, none⟩)) w K := by
  unfold F28
  obtain ⟨v, f, hr, hs⟩ := hw
  refine pE_boxc hs [.int .i64 0, .int .i64 0, .int .i64 0, .slice none 0 0] rfl (fun b1 w1 hs1 _ _ => ?_)
  have hw1 : RrSt w0 b s ((b1, ⟨[.int .i64 0, .int .i64 0, .int .i64 0, .slice none 0 0], 42⟩) :: h) w1 := ⟨v, f, hr, hs1.re (fun _ => by simp only [cnt_nil, cnt_cons, cnt_append]; omega)⟩
  refine F47_pc (rI64_spec hw1 (fun w2 hw2 => ?_))
  refine F47_pc (rI64_spec hw2 (fun w3 hw3 => ?_))
  refine F47_pc (rI64_spec hw3 (fun w4 hw4 => ?_))
  refine F48_pc (getI_spec hw4 (fun s' hp w5 ho5 hw5 => ?_))
  obtain ⟨v5, f5, hr5, hs5⟩ := hw5
  have hc := ho5.one
  refine pV_eq (show _ = some (.agg #[.int .i64 (rdI s).1, .int .i64 (rdI (rdI s).2).1, .int .i64 (rdI (rdI (rdI s).2).2).1, s']) from ?_) ?_
  · obtain ⟨a, n, rfl, _⟩ := OwnS.slice ho5
    rfl
  have hs6 : St w0 no ((b1, ⟨[.int .i64 0, .int .i64 0, .int .i64 0, .slice none 0 0], 42⟩) :: (b, ⟨[v5, .int .i64 f5], RT⟩) :: (hp ++ h)) w5 := hs5.re (fun _ => by simp only [cnt_nil, cnt_cons, cnt_append]; omega)
  refine pU_st hs6 (row ((getIn s).1, s')) rfl (by simp [Value.cells]) (row_one (p := ((getIn s).1, s')) hc) rfl (fun w7 hs7 _ => ?_)
  try simp (disch := omega) only [pV_some, pE_some, pU_some, st_add, st_sub, st_mul, st_quo, st_rem, st_eql, st_neq, st_lss, st_leq, st_gtr, st_geq, st_seq, st_sneq, st_beq, st_bneq, st_not, st_neg, st_lenS, st_capS, st_lenT, st_fldA, st_conv, st_pick, st_ext0, st_ext1, st_ext2, st_ext3, st_nilS, st_nilP, st_nilF, st_nilE, st_nilN, st_none, st_some, st_true, st_false, nilC, add_lit, Nat.zero_add, Nat.add_zero, nth0, nth1, nth2, nth3, nth4, nth5, nth6, List.getElem?_cons_succ, List.getElem?_cons_zero, cond_true, cond_false, pSC_orp, pSC_andp, wrap_i64, Bool.not_true, Bool.not_false, hs7.top.ldw (sz := 4) rfl]
  exact k s' hp w7 ho5 ⟨v5, f5, hr5, hs7.re (fun _ => by simp only [cnt_nil, cnt_cons, cnt_append]; omega)⟩

/-- Inputs of one's own, by what they are. -/
def OwnL (v : Value) (l : List In) (hp : HP) : Prop := ∃ ps, insOf ps = l ∧ OwnIns v ps hp
theorem getIns_spec {w0 w : World} {b : Nat} {s : RS} {h : HP} (hw : RrSt w0 b s h w) {K : Value → World → Prop}
    (k : ∀ v' hp w', OwnL v' (getList 65536 getIn s).1 hp → RrSt w0 b (getList 65536 getIn s).2 (hp ++ h) w' → K v' w') : F27 (.pointer (some ⟨b, 0, none⟩)) (.int .i64 65536) (.func (.func 28) #[] #[]) w K := by
  unfold F27
  refine getList_gen getIn OwnL ⟨[], rfl, ownIns_nil⟩ 65536 (by omega)
    (fun v w k => pCallV Try.prog (.func (.func 28) #[] #[]) [(.pointer (some ⟨b, 0, none⟩))] w fun t53_28 w => pE (mkE 42 4 [t53_28] w) fun t54_29 w => pE (semE Try.prog (Builtin.append_ #[22, 22] 22 #[v, t54_29]) w) k)
    (fun v w k => pCall Try.prog 46 [v] w k) ?_ ?_ hw k
  · rintro s v xs hp h w K' ⟨ps, rfl, o, i, ho, hi, rfl⟩ hw hl hk
    refine pCallV_func (F28_pc (get_spec hw (fun s' hp1 w1 ho1 hw1 => ?_)))
    obtain ⟨v1, f1, hr1, hs1⟩ := hw1
    have hl : ps.length ≤ 4194316 := by simpa [insOf] using hl
    refine more_spec (p := ((getIn s).1, s')) (h := (b, ⟨[v1, .int .i64 f1], RT⟩) :: (hp1 ++ (i ++ h))) ho (hs1.re (fun _ => by simp only [cnt_nil, cnt_cons, cnt_append]; omega)) ho1.one (by omega) (fun v' o' w7 ho7 hs7 => ?_)
    exact hk v' (o' ++ (hp1 ++ i)) w7 ⟨ps ++ [((getIn s).1, s')], by simp [insOf], o', hp1 ++ i, ho7, .snoc hi ho1, rfl⟩ ⟨v1, f1, hr1, hs7.re (fun _ => by simp only [cnt_nil, cnt_cons, cnt_append]; omega)⟩
  · rintro v xs hp w K' ⟨ps, rfl, o, i, ho, hi, rfl⟩ hk
    refine F46_pc ?_
    unfold F46
    obtain ⟨v', h1, h2⟩ := OwnS.clip ho (x := ps.length) (y := ps.length) rfl rfl
    try simp (disch := omega) only [pV_some, pE_some, pU_some, st_add, st_sub, st_mul, st_quo, st_rem, st_eql, st_neq, st_lss, st_leq, st_gtr, st_geq, st_seq, st_sneq, st_beq, st_bneq, st_not, st_neg, st_lenS, st_capS, st_lenT, st_fldA, st_conv, st_pick, st_ext0, st_ext1, st_ext2, st_ext3, st_nilS, st_nilP, st_nilF, st_nilE, st_nilN, st_none, st_some, st_true, st_false, nilC, add_lit, Nat.zero_add, Nat.add_zero, nth0, nth1, nth2, nth3, nth4, nth5, nth6, List.getElem?_cons_succ, List.getElem?_cons_zero, cond_true, cond_false, pSC_orp, pSC_andp, wrap_i64, Bool.not_true, Bool.not_false, ho.len, h1]
    exact hk v' ⟨ps, rfl, o, i, h2, hi, rfl⟩

/-- bytes.Equal. -/
theorem conv_str {w : World} {v : Value} {l : List Nat} (hv : RdB w v l) (hb : ∀ c ∈ l, c < 256) {K : Value → World → Prop}
    (k : K (.string ⟨(l.map UInt8.ofNat).toArray⟩) w) : pE (semE Try.prog (convert 32 9 v) w) K := by
  have hs : Try.prog.underlying 32 = some (.slice 5) := Try.underlying32
  have he : Try.prog.underlying 5 = some (.int .u8) := Try.underlying5
  have hd : Try.prog.underlying 9 = some .string := Try.underlying9
  unfold pE semE
  obtain ⟨hl, a, c, rfl, hn, h0, hc⟩ := hv
  cases a with
  | none =>
    have : l = [] := List.eq_nil_of_length_eq_zero (h0 rfl)
    subst this
    rw [run_convert_bytes_nil w _ _ hs he _ _ _ hd]
    exact k
  | some ad =>
    have := run_convert_bytes_back (P := Try.prog) w _ _ _ ad c (l.map UInt8.ofNat) hs he hd (fun j hj => by
      have hj' : j < l.length := by simpa using hj
      have hx := hc ad rfl j _ (bys_at (List.getElem?_eq_getElem hj'))
      rw [hx]
      have hlt := hb _ (List.getElem_mem hj')
      simp [Nat.mod_eq_of_lt hlt])
    rw [List.length_map] at this
    rw [this]
    exact k
theorem str_inj {l r : List Nat} (hl : ∀ c ∈ l, c < 256) (hr : ∀ c ∈ r, c < 256) (h : l.map UInt8.ofNat = r.map UInt8.ofNat) : l = r := by
  have h2 := congrArg (List.map UInt8.toNat) h
  simp only [List.map_map] at h2
  have e : ∀ l : List Nat, (∀ c ∈ l, c < 256) → l.map (UInt8.toNat ∘ UInt8.ofNat) = l := by
    intro l hl
    conv => rhs; rw [← List.map_id l]
    apply List.map_congr_left
    intro c hc
    simp [Nat.mod_eq_of_lt (hl c hc)]
  rw [e l hl, e r hr] at h2
  exact h2
theorem equal_spec {w : World} {v u : Value} {l r : List Nat} (hv : RdB w v l) (hu : RdB w u r) (hl : ∀ c ∈ l, c < 256) (hr : ∀ c ∈ r, c < 256) {K : Value → World → Prop}
    (k : K (.bool (decide (l = r))) w) : F43 v u w K := by
  unfold F43
  refine conv_str hv hl (conv_str hu hr ?_)
  try simp (disch := omega) only [pV_some, pE_some, pU_some, st_add, st_sub, st_mul, st_quo, st_rem, st_eql, st_neq, st_lss, st_leq, st_gtr, st_geq, st_seq, st_sneq, st_beq, st_bneq, st_not, st_neg, st_lenS, st_capS, st_lenT, st_fldA, st_conv, st_pick, st_ext0, st_ext1, st_ext2, st_ext3, st_nilS, st_nilP, st_nilF, st_nilE, st_nilN, st_none, st_some, st_true, st_false, nilC, add_lit, Nat.zero_add, Nat.add_zero, nth0, nth1, nth2, nth3, nth4, nth5, nth6, List.getElem?_cons_succ, List.getElem?_cons_zero, cond_true, cond_false, pSC_orp, pSC_andp, wrap_i64, Bool.not_true, Bool.not_false]
  have e : ((⟨(l.map UInt8.ofNat).toArray⟩ : ByteArray).toList == (⟨(r.map UInt8.ofNat).toArray⟩ : ByteArray).toList) = decide (l = r) := by
    rw [ByteArray.toList_eq, ByteArray.toList_eq]
    by_cases h : l = r
    · subst h; simp
    · have : l.map UInt8.ofNat ≠ r.map UInt8.ofNat := fun h' => h (str_inj hl hr h')
      simp [h, this]
  rw [e]
  exact k

/-- What Unseal tells. -/
def mid (l : List Nat) : List Nat := (l.take (l.length - 4)).drop 8
def Un (kd : Nat) (l : List Nat) : Nat := if 4194316 < l.length then 1 else if l.length < 12 then 20 else if sealed kd (mid l) = l then 0 else 20
theorem mid_len (l : List Nat) : (mid l).length = l.length - 12 := by simp [mid]; omega
theorem mid_lt {l : List Nat} (h : ∀ c ∈ l, c < 256) : ∀ c ∈ mid l, c < 256 := fun c hc => h c (List.mem_of_mem_take (List.mem_of_mem_drop hc))
theorem Un_len {kd : Nat} {l : List Nat} (h : Un kd l = 0) : (mid l).length ≤ 4194304 ∧ sealed kd (mid l) = l := by
  unfold Un at h
  split at h
  · cases h
  · split at h
    · cases h
    · split at h
      · rename_i h1 _ h3
        exact ⟨by rw [mid_len]; omega, h3⟩
      · cases h
theorem mid_read {w : World} {v : Value} {l : List Nat} (hv : RdB w v l) (h : 12 ≤ l.length) : ∃ v', slV 1 v (some (.int .i64 8)) (some (.int .i64 ((l.length : Int) - 4))) none = some v' ∧ RdB w v' (mid l) := by
  obtain ⟨v', h1, h2⟩ := RdC.cut hv (a := 8) (b := l.length - 4) (by omega) (by omega) (x := 8) (y := (l.length : Int) - 4) rfl (by omega)
  refine ⟨v', h1, ?_⟩
  have e : l.length - 4 - 8 = (mid l).length := by rw [mid_len]; omega
  have e2 : ((bys l).take ((l.length - 4) * 1)).drop (8 * 1) = bys (mid l) := by simp [mid, bys, List.map_take, List.map_drop]
  rw [e2, e] at h2
  exact h2

theorem unseal_spec {w : World} {v : Value} {l : List Nat} (hv : RdB w v l) (hl : l.length ≤ 70368744177664) (kd : Nat) (hk : kd < 256) (hb : ∀ x ∈ l, x < 256) {K : Value → World → Prop}
    (k1 : Un kd l ≠ 0 → ∀ w', St w no [] w' → K (.tuple #[.slice none 0 0, .int .i64 (Un kd l)]) w')
    (k2 : Un kd l = 0 → ∀ v' hp w', OwnB v' (mid l) hp → St w no hp w' → K (.tuple #[v', .int .i64 0]) w') : F24 (.int .u8 kd) v w K := by
  unfold F24
  try simp (disch := omega) only [pV_some, pE_some, pU_some, st_add, st_sub, st_mul, st_quo, st_rem, st_eql, st_neq, st_lss, st_leq, st_gtr, st_geq, st_seq, st_sneq, st_beq, st_bneq, st_not, st_neg, st_lenS, st_capS, st_lenT, st_fldA, st_conv, st_pick, st_ext0, st_ext1, st_ext2, st_ext3, st_nilS, st_nilP, st_nilF, st_nilE, st_nilN, st_none, st_some, st_true, st_false, nilC, add_lit, Nat.zero_add, Nat.add_zero, nth0, nth1, nth2, nth3, nth4, nth5, nth6, List.getElem?_cons_succ, List.getElem?_cons_zero, cond_true, cond_false, pSC_orp, pSC_andp, wrap_i64, Bool.not_true, Bool.not_false, hv.len]
  refine pIf_of (fun h => ?_) (fun h => ?_)
  · have h : 4194316 < l.length := by simp at h; omega
    have e : Un kd l = 1 := by rw [Un, if_pos h]
    rw [e] at k1
    exact k1 (by omega) w (St.nil _ _)
  have h : ¬ 4194316 < l.length := by simp at h; omega
  refine pIf_of (fun h2 => ?_) (fun h2 => ?_)
  · have h2 : l.length < 12 := by simp at h2; omega
    have e : Un kd l = 20 := by rw [Un, if_neg h, if_pos h2]
    rw [e] at k1
    exact k1 (by omega) w (St.nil _ _)
  have h2 : ¬ l.length < 12 := by simp at h2; omega
  obtain ⟨vm, hm, rm⟩ := mid_read hv (by omega)
  try simp (disch := omega) only [pV_some, pE_some, pU_some, st_add, st_sub, st_mul, st_quo, st_rem, st_eql, st_neq, st_lss, st_leq, st_gtr, st_geq, st_seq, st_sneq, st_beq, st_bneq, st_not, st_neg, st_lenS, st_capS, st_lenT, st_fldA, st_conv, st_pick, st_ext0, st_ext1, st_ext2, st_ext3, st_nilS, st_nilP, st_nilF, st_nilE, st_nilN, st_none, st_some, st_true, st_false, nilC, add_lit, Nat.zero_add, Nat.add_zero, nth0, nth1, nth2, nth3, nth4, nth5, nth6, List.getElem?_cons_succ, List.getElem?_cons_zero, cond_true, cond_false, pSC_orp, pSC_andp, wrap_i64, Bool.not_true, Bool.not_false, hm]
  refine F40_pc (seal_spec rm (by rw [mid_len]; omega) kd hk (mid_lt hb) (fun h3 => ?_) (fun h3 v5 hp5 w5 ho5 hs5 => ?_))
  · rw [mid_len] at h3; omega
  try simp (disch := omega) only [pV_some, pE_some, pU_some, st_add, st_sub, st_mul, st_quo, st_rem, st_eql, st_neq, st_lss, st_leq, st_gtr, st_geq, st_seq, st_sneq, st_beq, st_bneq, st_not, st_neg, st_lenS, st_capS, st_lenT, st_fldA, st_conv, st_pick, st_ext0, st_ext1, st_ext2, st_ext3, st_nilS, st_nilP, st_nilF, st_nilE, st_nilN, st_none, st_some, st_true, st_false, nilC, add_lit, Nat.zero_add, Nat.add_zero, nth0, nth1, nth2, nth3, nth4, nth5, nth6, List.getElem?_cons_succ, List.getElem?_cons_zero, cond_true, cond_false, pSC_orp, pSC_andp, wrap_i64, Bool.not_true, Bool.not_false]
  refine F43_pc (equal_spec (ho5.reads (h := []) (hs5.re (fun _ => by simp only [cnt_nil, cnt_cons, cnt_append]; omega))) (hv.gr hs5.tr) (sealed_lt hk (mid_lt hb)) hb ?_)
  try simp (disch := omega) only [pV_some, pE_some, pU_some, st_add, st_sub, st_mul, st_quo, st_rem, st_eql, st_neq, st_lss, st_leq, st_gtr, st_geq, st_seq, st_sneq, st_beq, st_bneq, st_not, st_neg, st_lenS, st_capS, st_lenT, st_fldA, st_conv, st_pick, st_ext0, st_ext1, st_ext2, st_ext3, st_nilS, st_nilP, st_nilF, st_nilE, st_nilN, st_none, st_some, st_true, st_false, nilC, add_lit, Nat.zero_add, Nat.add_zero, nth0, nth1, nth2, nth3, nth4, nth5, nth6, List.getElem?_cons_succ, List.getElem?_cons_zero, cond_true, cond_false, pSC_orp, pSC_andp, wrap_i64, Bool.not_true, Bool.not_false]
  refine pIf_of (fun h4 => ?_) (fun h4 => ?_)
  · have h4 : ¬ sealed kd (mid l) = l := by simpa using h4
    have e : Un kd l = 20 := by rw [Un, if_neg h, if_neg h2, if_neg h4]
    rw [e] at k1
    exact k1 (by omega) w5 (hs5.re (fun _ => by simp only [cnt_nil, cnt_cons, cnt_append]; omega))
  · have h4 : sealed kd (mid l) = l := by simpa using h4
    have e : Un kd l = 0 := by rw [Un, if_neg h, if_neg h2, if_pos h4]
    refine F44_pc (bclone_spec (rm.gr hs5.tr) (by rw [mid_len]; omega) (fun v6 hp6 w6 ho6 hs6 => ?_))
    exact k2 e v6 hp6 w6 ho6 ((hs5.call hs6).re (fun _ => by simp only [cnt_nil, cnt_cons, cnt_append]; omega))

theorem refunseal_spec {w : World} {v : Value} {l : List Nat} (hv : RdB w v l) (hl : l.length ≤ 70368744177664) (kd : Nat) (hk : kd < 256) (hb : ∀ x ∈ l, x < 256) {K : Value → World → Prop}
    (k1 : Un kd l ≠ 0 → ∀ w', St w no [] w' → K (.tuple #[.slice none 0 0, .int .i64 (Un kd l)]) w')
    (k2 : Un kd l = 0 → ∀ v' hp w', OwnB v' (mid l) hp → St w no hp w' → K (.tuple #[v', .int .i64 0]) w') : F30 (.int .u8 kd) v w K := by
  unfold F30
  try simp (disch := omega) only [pV_some, pE_some, pU_some, st_add, st_sub, st_mul, st_quo, st_rem, st_eql, st_neq, st_lss, st_leq, st_gtr, st_geq, st_seq, st_sneq, st_beq, st_bneq, st_not, st_neg, st_lenS, st_capS, st_lenT, st_fldA, st_conv, st_pick, st_ext0, st_ext1, st_ext2, st_ext3, st_nilS, st_nilP, st_nilF, st_nilE, st_nilN, st_none, st_some, st_true, st_false, nilC, add_lit, Nat.zero_add, Nat.add_zero, nth0, nth1, nth2, nth3, nth4, nth5, nth6, List.getElem?_cons_succ, List.getElem?_cons_zero, cond_true, cond_false, pSC_orp, pSC_andp, wrap_i64, Bool.not_true, Bool.not_false, hv.len]
  refine pIf_of (fun h => ?_) (fun h => ?_)
  · have h : 4194316 < l.length := by simp at h; omega
    have e : Un kd l = 1 := by rw [Un, if_pos h]
    rw [e] at k1
    exact k1 (by omega) w (St.nil _ _)
  have h : ¬ 4194316 < l.length := by simp at h; omega
  refine pIf_of (fun h2 => ?_) (fun h2 => ?_)
  · have h2 : l.length < 12 := by simp at h2; omega
    have e : Un kd l = 20 := by rw [Un, if_neg h, if_pos h2]
    rw [e] at k1
    exact k1 (by omega) w (St.nil _ _)
  have h2 : ¬ l.length < 12 := by simp at h2; omega
  obtain ⟨vm, hm, rm⟩ := mid_read hv (by omega)
  try simp (disch := omega) only [pV_some, pE_some, pU_some, st_add, st_sub, st_mul, st_quo, st_rem, st_eql, st_neq, st_lss, st_leq, st_gtr, st_geq, st_seq, st_sneq, st_beq, st_bneq, st_not, st_neg, st_lenS, st_capS, st_lenT, st_fldA, st_conv, st_pick, st_ext0, st_ext1, st_ext2, st_ext3, st_nilS, st_nilP, st_nilF, st_nilE, st_nilN, st_none, st_some, st_true, st_false, nilC, add_lit, Nat.zero_add, Nat.add_zero, nth0, nth1, nth2, nth3, nth4, nth5, nth6, List.getElem?_cons_succ, List.getElem?_cons_zero, cond_true, cond_false, pSC_orp, pSC_andp, wrap_i64, Bool.not_true, Bool.not_false, hm]
  refine append_bys (xs := []) (hp := []) (h := []) (ownS_nil _ _) (St.nil w no) rm (by rw [mid_len]; simp; omega) (fun v4 hp4 w4 ho4 hs4 => ?_)
  rw [List.nil_append] at ho4
  refine F42_pc (refseal_spec (ho4.reads (h := []) hs4) (by rw [mid_len]; omega) kd hk (mid_lt hb) (fun h3 => ?_) (fun h3 v5 hp5 w5 ho5 hs5 => ?_))
  · rw [mid_len] at h3; omega
  have hs6 := hs4.call hs5
  have r5 : RdB w5 v5 (sealed kd (mid l)) := ho5.reads (h := hp4) (hs6.re (fun _ => by simp only [cnt_nil, cnt_cons, cnt_append]; omega))
  have hlen : (sealed kd (mid l)).length = l.length := by rw [sealed_len, mid_len]; omega
  try simp (disch := omega) only [pV_some, pE_some, pU_some, st_add, st_sub, st_mul, st_quo, st_rem, st_eql, st_neq, st_lss, st_leq, st_gtr, st_geq, st_seq, st_sneq, st_beq, st_bneq, st_not, st_neg, st_lenS, st_capS, st_lenT, st_fldA, st_conv, st_pick, st_ext0, st_ext1, st_ext2, st_ext3, st_nilS, st_nilP, st_nilF, st_nilE, st_nilN, st_none, st_some, st_true, st_false, nilC, add_lit, Nat.zero_add, Nat.add_zero, nth0, nth1, nth2, nth3, nth4, nth5, nth6, List.getElem?_cons_succ, List.getElem?_cons_zero, cond_true, cond_false, pSC_orp, pSC_andp, wrap_i64, Bool.not_true, Bool.not_false]
  refine pLoop_up (I := fun i vs w' => vs = [.int .i64 (i : Nat)] ∧ (sealed kd (mid l)).take i = l.take i ∧ St w5 no [] w') l.length 0 (Nat.zero_le _) ⟨rfl, rfl, St.nil _ _⟩ ?_
  rintro i vs w7 hi ⟨rfl, he, hs7⟩ go hgo
  try simp (disch := omega) only [pV_some, pE_some, pU_some, st_add, st_sub, st_mul, st_quo, st_rem, st_eql, st_neq, st_lss, st_leq, st_gtr, st_geq, st_seq, st_sneq, st_beq, st_bneq, st_not, st_neg, st_lenS, st_capS, st_lenT, st_fldA, st_conv, st_pick, st_ext0, st_ext1, st_ext2, st_ext3, st_nilS, st_nilP, st_nilF, st_nilE, st_nilN, st_none, st_some, st_true, st_false, nilC, add_lit, Nat.zero_add, Nat.add_zero, nth0, nth1, nth2, nth3, nth4, nth5, nth6, List.getElem?_cons_succ, List.getElem?_cons_zero, cond_true, cond_false, pSC_orp, pSC_andp, wrap_i64, Bool.not_true, Bool.not_false]
  refine pIf_of (fun hlt => ?_) (fun hlt => ?_)
  · have hlt : i < l.length := by simpa using hlt
    refine pDraw_st hs7 (fun w8 hs8 ht8 => ?_)
    have hx := List.getElem?_eq_getElem hlt
    have hy := List.getElem?_eq_getElem (l := sealed kd (mid l)) (i := i) (by omega)
    obtain ⟨a1, i1, c1⟩ := (r5.gr hs8.tr).at1 (bys_at hy) (x := i) rfl
    obtain ⟨a2, i2, c2⟩ := (hv.gr (hs6.call hs8).tr).at1 (bys_at hx) (x := i) rfl
    try simp (disch := omega) only [pV_some, pE_some, pU_some, st_add, st_sub, st_mul, st_quo, st_rem, st_eql, st_neq, st_lss, st_leq, st_gtr, st_geq, st_seq, st_sneq, st_beq, st_bneq, st_not, st_neg, st_lenS, st_capS, st_lenT, st_fldA, st_conv, st_pick, st_ext0, st_ext1, st_ext2, st_ext3, st_nilS, st_nilP, st_nilF, st_nilE, st_nilN, st_none, st_some, st_true, st_false, nilC, add_lit, Nat.zero_add, Nat.add_zero, nth0, nth1, nth2, nth3, nth4, nth5, nth6, List.getElem?_cons_succ, List.getElem?_cons_zero, cond_true, cond_false, pSC_orp, pSC_andp, wrap_i64, Bool.not_true, Bool.not_false, i1, i2, ld1r c1, ld1r c2]
    refine pIf_of (fun h4 => ?_) (fun h4 => ?_)
    · have h4 : ¬ sealed kd (mid l) = l := by
        intro e
        have : (sealed kd (mid l))[i]'(by omega) = l[i] := by simp only [e]
        rw [this] at h4; simp at h4
      have e : Un kd l = 20 := by rw [Un, if_neg h, if_neg h2, if_neg h4]
      rw [e] at k1
      exact k1 (by omega) w8 ((hs6.call hs8).re (fun _ => by simp only [cnt_nil, cnt_cons, cnt_append]; omega))
    · refine hgo _ _ hlt ⟨by simp, ?_, hs8⟩
      have h4 : (sealed kd (mid l))[i]'(by omega) = l[i] := by simp at h4; omega
      rw [List.take_add_one, List.take_add_one, hx, hy, he, h4]
  · obtain rfl : i = l.length := by simp at hlt; omega
    have h4 : sealed kd (mid l) = l := by
      rw [List.take_of_length_le (by omega), List.take_length] at he
      exact he
    have e : Un kd l = 0 := by rw [Un, if_neg h, if_neg h2, if_pos h4]
    exact k2 e v4 hp4 w7 ho4 ((hs6.call hs7).re (fun _ => by simp only [cnt_nil, cnt_cons, cnt_append]; omega))
end Go.Proofs.Ytcghhhjklihpkaa
