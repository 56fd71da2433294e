/- wheel: the statements' helpers; a wheel and its sorted list. -/
import Derived.Test.YtbbjljhbiaeadaaWhH
import Derived.Test.YtbbjljhbiaeadaaEq
set_option linter.unusedSimpArgs false
set_option linter.unusedVariables false
set_option maxRecDepth 100000
namespace Go.Proofs.Ytbbjljhbiaeadaa
open Go.Bk Go.RowKit

theorem eq_fir (a b : Int × Int) : dry Try.prog (eqS .neq 34 false false (frV a) (frV b)) = some (.bool (!decide (a = b))) := by
  refine eqS_neq (by kernel_rfl) ?_
  rw [dry_equalIn_struct 9999 34 _ _ (by kernel_rfl) (by kernel_rfl)]
  have h1 : eqFieldsD Try.prog 9999 #[.int .i64 a.1, .int .i64 a.2] #[.int .i64 b.1, .int .i64 b.2] (Try.prog.fieldsOf 34).toList = (dry Try.prog (Op.equalIn 9999 3 (.int .i64 a.1) (.int .i64 b.1))).bind fun r => if r = true then (dry Try.prog (Op.equalIn 9999 3 (.int .i64 a.2) (.int .i64 b.2))).bind fun r => if r = true then some true else some false else some false := by kernel_rfl
  rw [h1, dry_equalIn_int 9998 3 .i64 .i64 _ _ Try.underlying3, dry_equalIn_int 9998 3 .i64 .i64 _ _ Try.underlying3]
  obtain ⟨a1, a2⟩ := a
  obtain ⟨b1, b2⟩ := b
  simp only [Option.bind_some, Prod.mk.injEq]
  by_cases h1 : a1 = b1 <;> by_cases h2 : a2 = b2 <;> simp [h1, h2]

/-- may: may a timer be armed? -/
def mayP (now : Int) (e : Int × Int) : Prop := 0 ≤ e.2 ∧ e.2 ≤ 65535 ∧ now ≤ e.1 ∧ e.1 < 1099511627776
instance (now : Int) (e : Int × Int) : Decidable (mayP now e) := inferInstanceAs (Decidable (_ ∧ _))
theorem may_spec {w : World} (e : Int × Int) (now : Int) {K : Value → World → Prop} (k : ∀ w', St w no [] w' → K (.bool (decide (mayP now e))) w') : F16 (frV e) (.int .i64 now) w K := by
  unfold F16
  refine pE_boxc (St.nil w no) [.int .i64 e.1, .int .i64 e.2] rfl (fun b w1 hs1 _ _ => ?_)
  have hB := hs1.top
  try simp (disch := omega) only [pV_some, pE_some, pU_some, st_add, st_sub, st_mul, st_quo, st_rem, st_eql, st_neq, st_lss, st_leq, st_gtr, st_geq, st_seq, st_sneq, st_beq, st_bneq, st_not, st_neg, st_lenS, st_capS, st_lenT, st_fldA, st_conv, st_pick, st_ext0, st_ext1, st_ext2, st_ext3, st_nilS, st_nilP, st_nilF, st_nilE, st_nilN, st_none, st_some, st_true, st_false, nilC, add_lit, Nat.zero_add, Nat.add_zero, nth0, nth1, nth2, nth3, nth4, nth5, nth6, List.getElem?_cons_succ, List.getElem?_cons_zero, cond_true, cond_false, pSC_orp, pSC_andp, wrap_i64, Bool.not_true, Bool.not_false, hB.ld]
  have he : (decide (0 ≤ e.2) && (decide (e.2 ≤ 65535) && (decide (now ≤ e.1) && decide (e.1 < 1099511627776)))) = decide (mayP now e) := by
    unfold mayP
    by_cases h1 : 0 ≤ e.2 <;> by_cases h2 : e.2 ≤ 65535 <;> by_cases h3 : now ≤ e.1 <;> by_cases h4 : e.1 < 1099511627776 <;> simp [h1, h2, h3, h4]
  have := k w1 (hs1.re (fun _ => by simp only [cnt_nil, cnt_cons, cnt_append]; omega))
  rw [← he] at this
  simpa only [Bool.and_assoc] using this

/-- The last arming of a number that may be. -/
def lastA (arms : List (Int × Int)) (now id : Int) : Option Int := arms.foldl (fun o e => if e.2 = id ∧ mayP now e then some e.1 else o) none
theorem lastA_snoc (arms : List (Int × Int)) (e : Int × Int) (now id : Int) : lastA (arms ++ [e]) now id = if e.2 = id ∧ mayP now e then some e.1 else lastA arms now id := by
  unfold lastA; rw [List.foldl_append]; rfl
theorem take_snoc {α : Type} {l : List α} {i : Nat} {x : α} (h : l[i]? = some x) : l.take (i + 1) = l.take i ++ [x] := by rw [List.take_add_one, h]; rfl

theorem last_spec {w0 : World} {v : Value} {arms : List (Int × Int)} (hv : RdF w0 v arms) (hl : arms.length ≤ 9223372036854775807) (now id : Int) {K : Value → World → Prop}
    (k : ∀ w', St w0 no [] w' → K (.tuple #[.int .i64 ((lastA arms now id).getD 0), .bool (lastA arms now id).isSome]) w') : F11 v (.int .i64 now) (.int .i64 id) w0 K := by
  unfold F11
  refine pLoop_up (I := fun i vs w' => vs = [.int .i64 ((lastA (arms.take i) now id).getD 0), .bool (lastA (arms.take i) now id).isSome, .int .i64 (i : Nat)] ∧ St w0 no [] w') arms.length 0 (Nat.zero_le _) ⟨rfl, St.nil _ _⟩ ?_
  rintro i vs w1 hi ⟨rfl, hs1⟩ go hgo
  try simp (disch := omega) only [pV_some, pE_some, pU_some, st_add, st_sub, st_mul, st_quo, st_rem, st_eql, st_neq, st_lss, st_leq, st_gtr, st_geq, st_seq, st_sneq, st_beq, st_bneq, st_not, st_neg, st_lenS, st_capS, st_lenT, st_fldA, st_conv, st_pick, st_ext0, st_ext1, st_ext2, st_ext3, st_nilS, st_nilP, st_nilF, st_nilE, st_nilN, st_none, st_some, st_true, st_false, nilC, add_lit, Nat.zero_add, Nat.add_zero, nth0, nth1, nth2, nth3, nth4, nth5, nth6, List.getElem?_cons_succ, List.getElem?_cons_zero, cond_true, cond_false, pSC_orp, pSC_andp, wrap_i64, Bool.not_true, Bool.not_false, hv.len]
  refine pIf_of (fun hlt => ?_) (fun hlt => ?_)
  · have hlt : i < arms.length := by simpa using hlt
    have hx := List.getElem?_eq_getElem hlt
    refine pJoin_id ?_
    obtain ⟨ad, i1, c1⟩ := RdC.fat (hv.gr hs1.tr) hx (x := i) rfl
    try simp (disch := omega) only [pV_some, pE_some, pU_some, st_add, st_sub, st_mul, st_quo, st_rem, st_eql, st_neq, st_lss, st_leq, st_gtr, st_geq, st_seq, st_sneq, st_beq, st_bneq, st_not, st_neg, st_lenS, st_capS, st_lenT, st_fldA, st_conv, st_pick, st_ext0, st_ext1, st_ext2, st_ext3, st_nilS, st_nilP, st_nilF, st_nilE, st_nilN, st_none, st_some, st_true, st_false, nilC, add_lit, Nat.zero_add, Nat.add_zero, nth0, nth1, nth2, nth3, nth4, nth5, nth6, List.getElem?_cons_succ, List.getElem?_cons_zero, cond_true, cond_false, pSC_orp, pSC_andp, wrap_i64, Bool.not_true, Bool.not_false, i1, c1.fld (j := 1) rfl, c1.fld (j := 0) rfl, fr_ld c1]
    have hst := lastA_snoc (arms.take i) arms[i] now id
    rw [← take_snoc hx] at hst
    have done : ∀ w2, St w0 no [] w2 → (arms[i].2 = id ∧ mayP now arms[i]) → go [.int .i64 arms[i].1, .bool true, .int .i64 ((i : Int) + 1)] w2 := by
      intro w2 hs2 hc
      refine hgo _ _ hlt ⟨?_, hs2⟩
      rw [hst, if_pos hc]; simp
    have keep : ∀ w2, St w0 no [] w2 → ¬ (arms[i].2 = id ∧ mayP now arms[i]) → go [.int .i64 ((lastA (arms.take i) now id).getD 0), .bool (lastA (arms.take i) now id).isSome, .int .i64 ((i : Int) + 1)] w2 := by
      intro w2 hs2 hc
      refine hgo _ _ hlt ⟨?_, hs2⟩
      rw [hst, if_neg hc]; simp
    by_cases hid : arms[i].2 = id
    · refine pSC_and_t (by simp [hid]) ?_
      refine F16_pc (may_spec arms[i] now (fun w2 hs2' => ?_))
      have hs2 := hs1.call hs2'
      have c2 := c1.tr hs2'.tr (fun h => h)
      refine pIf_of (fun hm => ?_) (fun hm => ?_)
      · have hm : mayP now arms[i] := by simpa using hm
        try simp (disch := omega) only [pV_some, pE_some, pU_some, st_add, st_sub, st_mul, st_quo, st_rem, st_eql, st_neq, st_lss, st_leq, st_gtr, st_geq, st_seq, st_sneq, st_beq, st_bneq, st_not, st_neg, st_lenS, st_capS, st_lenT, st_fldA, st_conv, st_pick, st_ext0, st_ext1, st_ext2, st_ext3, st_nilS, st_nilP, st_nilF, st_nilE, st_nilN, st_none, st_some, st_true, st_false, nilC, add_lit, Nat.zero_add, Nat.add_zero, nth0, nth1, nth2, nth3, nth4, nth5, nth6, List.getElem?_cons_succ, List.getElem?_cons_zero, cond_true, cond_false, pSC_orp, pSC_andp, wrap_i64, Bool.not_true, Bool.not_false, c2.fld (j := 0) rfl]
        exact done w2 (hs2.re (fun _ => by simp only [cnt_nil, cnt_cons, cnt_append]; omega)) ⟨hid, hm⟩
      · have hm : ¬ mayP now arms[i] := by simpa using hm
        try simp (disch := omega) only [pV_some, pE_some, pU_some, st_add, st_sub, st_mul, st_quo, st_rem, st_eql, st_neq, st_lss, st_leq, st_gtr, st_geq, st_seq, st_sneq, st_beq, st_bneq, st_not, st_neg, st_lenS, st_capS, st_lenT, st_fldA, st_conv, st_pick, st_ext0, st_ext1, st_ext2, st_ext3, st_nilS, st_nilP, st_nilF, st_nilE, st_nilN, st_none, st_some, st_true, st_false, nilC, add_lit, Nat.zero_add, Nat.add_zero, nth0, nth1, nth2, nth3, nth4, nth5, nth6, List.getElem?_cons_succ, List.getElem?_cons_zero, cond_true, cond_false, pSC_orp, pSC_andp, wrap_i64, Bool.not_true, Bool.not_false]
        exact keep w2 (hs2.re (fun _ => by simp only [cnt_nil, cnt_cons, cnt_append]; omega)) (fun h => hm h.2)
    · refine pSC_and_f (by simp [hid]) ?_
      refine pIf_of (fun h => by cases h) (fun _ => ?_)
      try simp (disch := omega) only [pV_some, pE_some, pU_some, st_add, st_sub, st_mul, st_quo, st_rem, st_eql, st_neq, st_lss, st_leq, st_gtr, st_geq, st_seq, st_sneq, st_beq, st_bneq, st_not, st_neg, st_lenS, st_capS, st_lenT, st_fldA, st_conv, st_pick, st_ext0, st_ext1, st_ext2, st_ext3, st_nilS, st_nilP, st_nilF, st_nilE, st_nilN, st_none, st_some, st_true, st_false, nilC, add_lit, Nat.zero_add, Nat.add_zero, nth0, nth1, nth2, nth3, nth4, nth5, nth6, List.getElem?_cons_succ, List.getElem?_cons_zero, cond_true, cond_false, pSC_orp, pSC_andp, wrap_i64, Bool.not_true, Bool.not_false]
      exact keep w1 hs1 (fun h => hid h.1)
  · obtain rfl : i = arms.length := by simp at hlt; omega
    rw [List.take_length]
    exact k w1 hs1

theorem sameF_spec {w : World} {v u : Value} {l r : List (Int × Int)} (hv : RdF w v l) (hu : RdF w u r) (hl : l.length ≤ 9223372036854775807) {K : Value → World → Prop}
    (k : ∀ w', St w no [] w' → K (.bool (decide (l = r))) w') : F13 v u w K := by
  unfold F13
  try simp (disch := omega) only [pV_some, pE_some, pU_some, st_add, st_sub, st_mul, st_quo, st_rem, st_eql, st_neq, st_lss, st_leq, st_gtr, st_geq, st_seq, st_sneq, st_beq, st_bneq, st_not, st_neg, st_lenS, st_capS, st_lenT, st_fldA, st_conv, st_pick, st_ext0, st_ext1, st_ext2, st_ext3, st_nilS, st_nilP, st_nilF, st_nilE, st_nilN, st_none, st_some, st_true, st_false, nilC, add_lit, Nat.zero_add, Nat.add_zero, nth0, nth1, nth2, nth3, nth4, nth5, nth6, List.getElem?_cons_succ, List.getElem?_cons_zero, cond_true, cond_false, pSC_orp, pSC_andp, wrap_i64, Bool.not_true, Bool.not_false, hv.len, hu.len]
  refine pIf_of (fun h => ?_) (fun h => ?_)
  · have h : l ≠ r := by rintro rfl; simp at h
    rw [show false = decide (l = r) by simp [h]]
    exact k w (St.nil _ _)
  have h : l.length = r.length := by simp at h; omega
  refine pLoop_up (I := fun i vs w' => vs = [.int .i64 (i : Nat)] ∧ l.take i = r.take i ∧ St w no [] w') l.length 0 (Nat.zero_le _) ⟨rfl, rfl, St.nil _ _⟩ ?_
  rintro i vs w7 hi ⟨rfl, he, hs7⟩ go hgo
  try simp (disch := omega) only [pV_some, pE_some, pU_some, st_add, st_sub, st_mul, st_quo, st_rem, st_eql, st_neq, st_lss, st_leq, st_gtr, st_geq, st_seq, st_sneq, st_beq, st_bneq, st_not, st_neg, st_lenS, st_capS, st_lenT, st_fldA, st_conv, st_pick, st_ext0, st_ext1, st_ext2, st_ext3, st_nilS, st_nilP, st_nilF, st_nilE, st_nilN, st_none, st_some, st_true, st_false, nilC, add_lit, Nat.zero_add, Nat.add_zero, nth0, nth1, nth2, nth3, nth4, nth5, nth6, List.getElem?_cons_succ, List.getElem?_cons_zero, cond_true, cond_false, pSC_orp, pSC_andp, wrap_i64, Bool.not_true, Bool.not_false]
  refine pIf_of (fun hlt => ?_) (fun hlt => ?_)
  · have hlt : i < l.length := by simpa using hlt
    refine pDraw_st hs7 (fun w8 hs8 ht8 => ?_)
    have hx := List.getElem?_eq_getElem hlt
    have hy := List.getElem?_eq_getElem (l := r) (i := i) (by omega)
    obtain ⟨a1, i1, c1⟩ := RdC.fat (hv.gr hs8.tr) hx (x := i) rfl
    obtain ⟨a2, i2, c2⟩ := RdC.fat (hu.gr hs8.tr) hy (x := i) rfl
    try simp (disch := omega) only [pV_some, pE_some, pU_some, st_add, st_sub, st_mul, st_quo, st_rem, st_eql, st_neq, st_lss, st_leq, st_gtr, st_geq, st_seq, st_sneq, st_beq, st_bneq, st_not, st_neg, st_lenS, st_capS, st_lenT, st_fldA, st_conv, st_pick, st_ext0, st_ext1, st_ext2, st_ext3, st_nilS, st_nilP, st_nilF, st_nilE, st_nilN, st_none, st_some, st_true, st_false, nilC, add_lit, Nat.zero_add, Nat.add_zero, nth0, nth1, nth2, nth3, nth4, nth5, nth6, List.getElem?_cons_succ, List.getElem?_cons_zero, cond_true, cond_false, pSC_orp, pSC_andp, wrap_i64, Bool.not_true, Bool.not_false, i1, i2, fr_ld c1, fr_ld c2, eq_fir]
    refine pIf_of (fun h4 => ?_) (fun h4 => ?_)
    · have h : l ≠ r := by rintro rfl; simp at h4
      rw [show false = decide (l = r) by simp [h]]
      exact k w8 hs8
    · refine hgo _ _ hlt ⟨by simp, ?_, hs8⟩
      have h4 : l[i] = r[i]'(by omega) := by simpa using h4
      rw [List.take_add_one, List.take_add_one, hx, hy, he, h4]
  · obtain rfl : i = l.length := by simp at hlt; omega
    have h4 : l = r := by
      rw [List.take_length, h, List.take_length] at he
      exact he
    rw [show true = decide (l = r) by simp [h4]]
    exact k w7 hs7

theorem ordered_spec {w0 : World} {v : Value} {l : List (Int × Int)} (hv : RdF w0 v l) (hl : l.length ≤ 9223372036854775807) (hs : l.Pairwise lt2) (a b : Int) (hr : ∀ e ∈ l, a ≤ e.1 ∧ e.1 ≤ b) {K : Value → World → Prop}
    (k : ∀ w', St w0 no [] w' → K (.bool true) w') : F8 v (.int .i64 a) (.int .i64 b) w0 K := by
  unfold F8
  refine pLoop_up (I := fun i vs w' => vs = [.int .i64 (i : Nat)] ∧ St w0 no [] w') l.length 0 (Nat.zero_le _) ⟨rfl, St.nil _ _⟩ ?_
  rintro i vs w1 hi ⟨rfl, hs1⟩ go hgo
  try simp (disch := omega) only [pV_some, pE_some, pU_some, st_add, st_sub, st_mul, st_quo, st_rem, st_eql, st_neq, st_lss, st_leq, st_gtr, st_geq, st_seq, st_sneq, st_beq, st_bneq, st_not, st_neg, st_lenS, st_capS, st_lenT, st_fldA, st_conv, st_pick, st_ext0, st_ext1, st_ext2, st_ext3, st_nilS, st_nilP, st_nilF, st_nilE, st_nilN, st_none, st_some, st_true, st_false, nilC, add_lit, Nat.zero_add, Nat.add_zero, nth0, nth1, nth2, nth3, nth4, nth5, nth6, List.getElem?_cons_succ, List.getElem?_cons_zero, cond_true, cond_false, pSC_orp, pSC_andp, wrap_i64, Bool.not_true, Bool.not_false, hv.len]
  refine pIf_of (fun hlt => ?_) (fun hlt => ?_)
  · have hlt : i < l.length := by simpa using hlt
    have hx := List.getElem?_eq_getElem hlt
    obtain ⟨ad, i1, c1⟩ := RdC.fat (hv.gr hs1.tr) hx (x := i) rfl
    obtain ⟨ha, hb⟩ := hr _ (List.getElem_mem hlt)
    try simp (disch := omega) only [pV_some, pE_some, pU_some, st_add, st_sub, st_mul, st_quo, st_rem, st_eql, st_neq, st_lss, st_leq, st_gtr, st_geq, st_seq, st_sneq, st_beq, st_bneq, st_not, st_neg, st_lenS, st_capS, st_lenT, st_fldA, st_conv, st_pick, st_ext0, st_ext1, st_ext2, st_ext3, st_nilS, st_nilP, st_nilF, st_nilE, st_nilN, st_none, st_some, st_true, st_false, nilC, add_lit, Nat.zero_add, Nat.add_zero, nth0, nth1, nth2, nth3, nth4, nth5, nth6, List.getElem?_cons_succ, List.getElem?_cons_zero, cond_true, cond_false, pSC_orp, pSC_andp, wrap_i64, Bool.not_true, Bool.not_false, i1, c1.fld (j := 0) rfl]
    refine pIf_of (fun h => by simp at h; omega) (fun _ => ?_)
    refine pDraw_st hs1 (fun w2 hs2 ht2 => ?_)
    have d1 := c1.tr ht2 (fun h => h)
    by_cases h0 : i = 0
    · subst h0
      refine pSC_and_f (by simp) ?_
      refine pIf_of (fun h => by cases h) (fun _ => ?_)
      try simp (disch := omega) only [pV_some, pE_some, pU_some, st_add, st_sub, st_mul, st_quo, st_rem, st_eql, st_neq, st_lss, st_leq, st_gtr, st_geq, st_seq, st_sneq, st_beq, st_bneq, st_not, st_neg, st_lenS, st_capS, st_lenT, st_fldA, st_conv, st_pick, st_ext0, st_ext1, st_ext2, st_ext3, st_nilS, st_nilP, st_nilF, st_nilE, st_nilN, st_none, st_some, st_true, st_false, nilC, add_lit, Nat.zero_add, Nat.add_zero, nth0, nth1, nth2, nth3, nth4, nth5, nth6, List.getElem?_cons_succ, List.getElem?_cons_zero, cond_true, cond_false, pSC_orp, pSC_andp, wrap_i64, Bool.not_true, Bool.not_false]
      exact hgo _ _ hlt ⟨by simp, hs2⟩
    · refine pSC_and_t (by simp; omega) ?_
      have hlt' : i - 1 < l.length := by omega
      have hy := List.getElem?_eq_getElem hlt'
      have e1 : ((i : Int) - 1) = ((i - 1 : Nat) : Int) := by omega
      obtain ⟨a2, j2, d2⟩ := RdC.fat (hv.gr hs2.tr) hy (x := (i : Int) - 1) e1
      have hlt2 : lt2 l[i - 1] l[i] := List.pairwise_iff_getElem.1 hs (i - 1) i hlt' hlt (by omega)
      unfold lt2 at hlt2
      try simp (disch := omega) only [pV_some, pE_some, pU_some, st_add, st_sub, st_mul, st_quo, st_rem, st_eql, st_neq, st_lss, st_leq, st_gtr, st_geq, st_seq, st_sneq, st_beq, st_bneq, st_not, st_neg, st_lenS, st_capS, st_lenT, st_fldA, st_conv, st_pick, st_ext0, st_ext1, st_ext2, st_ext3, st_nilS, st_nilP, st_nilF, st_nilE, st_nilN, st_none, st_some, st_true, st_false, nilC, add_lit, Nat.zero_add, Nat.add_zero, nth0, nth1, nth2, nth3, nth4, nth5, nth6, List.getElem?_cons_succ, List.getElem?_cons_zero, cond_true, cond_false, pSC_orp, pSC_andp, wrap_i64, Bool.not_true, Bool.not_false, j2, d1.fld (j := 0) rfl, d2.fld (j := 0) rfl, d1.fld (j := 1) rfl, d2.fld (j := 1) rfl]
      refine pIf_of (fun h => by simp at h; omega) (fun _ => ?_)
      try simp (disch := omega) only [pV_some, pE_some, pU_some, st_add, st_sub, st_mul, st_quo, st_rem, st_eql, st_neq, st_lss, st_leq, st_gtr, st_geq, st_seq, st_sneq, st_beq, st_bneq, st_not, st_neg, st_lenS, st_capS, st_lenT, st_fldA, st_conv, st_pick, st_ext0, st_ext1, st_ext2, st_ext3, st_nilS, st_nilP, st_nilF, st_nilE, st_nilN, st_none, st_some, st_true, st_false, nilC, add_lit, Nat.zero_add, Nat.add_zero, nth0, nth1, nth2, nth3, nth4, nth5, nth6, List.getElem?_cons_succ, List.getElem?_cons_zero, cond_true, cond_false, pSC_orp, pSC_andp, wrap_i64, Bool.not_true, Bool.not_false]
      exact hgo _ _ hlt ⟨by simp, hs2⟩
  · exact k w1 hs1

theorem filled_spec {w0 : World} {v : Value} {arms : List (Int × Int)} (hv : RdF w0 v arms) (hl : arms.length ≤ 9223372036854775807) (now : Int) {K : Value → World → Prop}
    (k1 : now < 0 ∨ 1099511627776 < now → ∀ w', St w0 no [] w' → K (.pointer none) w')
    (k2 : ∀ n : Nat, now = n → n ≤ 1099511627776 → ∀ p T hp w', WInv p n T hp → (∀ id, mget T id = lastA arms n id) → St w0 no hp w' → K (.pointer (some ⟨p, 0, none⟩)) w') : F6 (.int .i64 now) v w0 K := by
  unfold F6
  refine F18_pc (new_spec now (fun h => ?_) (fun n hn hn2 p hp w1 hw1 hs1 => ?_))
  · try simp (disch := omega) only [pV_some, pE_some, pU_some, st_add, st_sub, st_mul, st_quo, st_rem, st_eql, st_neq, st_lss, st_leq, st_gtr, st_geq, st_seq, st_sneq, st_beq, st_bneq, st_not, st_neg, st_lenS, st_capS, st_lenT, st_fldA, st_conv, st_pick, st_ext0, st_ext1, st_ext2, st_ext3, st_nilS, st_nilP, st_nilF, st_nilE, st_nilN, st_none, st_some, st_true, st_false, nilC, add_lit, Nat.zero_add, Nat.add_zero, nth0, nth1, nth2, nth3, nth4, nth5, nth6, List.getElem?_cons_succ, List.getElem?_cons_zero, cond_true, cond_false, pSC_orp, pSC_andp, wrap_i64, Bool.not_true, Bool.not_false]
    refine pIf_of (fun _ => k1 h w0 (St.nil _ _)) (fun h => by simp at h)
  · subst hn
    try simp (disch := omega) only [pV_some, pE_some, pU_some, st_add, st_sub, st_mul, st_quo, st_rem, st_eql, st_neq, st_lss, st_leq, st_gtr, st_geq, st_seq, st_sneq, st_beq, st_bneq, st_not, st_neg, st_lenS, st_capS, st_lenT, st_fldA, st_conv, st_pick, st_ext0, st_ext1, st_ext2, st_ext3, st_nilS, st_nilP, st_nilF, st_nilE, st_nilN, st_none, st_some, st_true, st_false, nilC, add_lit, Nat.zero_add, Nat.add_zero, nth0, nth1, nth2, nth3, nth4, nth5, nth6, List.getElem?_cons_succ, List.getElem?_cons_zero, cond_true, cond_false, pSC_orp, pSC_andp, wrap_i64, Bool.not_true, Bool.not_false]
    refine pIf_of (fun h => by simp at h) (fun _ => ?_)
    refine pLoop_up (I := fun i vs w' => ∃ (T : List (Int × Int)) (hp : HP), vs = [.int .i64 (i : Nat)] ∧ WInv p n T hp ∧ (∀ id, mget T id = lastA (arms.take i) n id) ∧ St w0 no hp w') arms.length 0 (Nat.zero_le _) ⟨[], hp, rfl, hw1, fun id => rfl, hs1⟩ ?_
    rintro i vs w2 hi ⟨T, hp2, rfl, hw2, hT, hs2⟩ go hgo
    try simp (disch := omega) only [pV_some, pE_some, pU_some, st_add, st_sub, st_mul, st_quo, st_rem, st_eql, st_neq, st_lss, st_leq, st_gtr, st_geq, st_seq, st_sneq, st_beq, st_bneq, st_not, st_neg, st_lenS, st_capS, st_lenT, st_fldA, st_conv, st_pick, st_ext0, st_ext1, st_ext2, st_ext3, st_nilS, st_nilP, st_nilF, st_nilE, st_nilN, st_none, st_some, st_true, st_false, nilC, add_lit, Nat.zero_add, Nat.add_zero, nth0, nth1, nth2, nth3, nth4, nth5, nth6, List.getElem?_cons_succ, List.getElem?_cons_zero, cond_true, cond_false, pSC_orp, pSC_andp, wrap_i64, Bool.not_true, Bool.not_false, hv.len]
    refine pIf_of (fun hlt => ?_) (fun hlt => ?_)
    · have hlt : i < arms.length := by simpa using hlt
      have hx := List.getElem?_eq_getElem hlt
      refine pDraw_st hs2 (fun w3 hs3 _ => ?_)
      obtain ⟨ad, i1, c1⟩ := RdC.fat (hv.gr hs3.tr) hx (x := i) rfl
      try simp (disch := omega) only [pV_some, pE_some, pU_some, st_add, st_sub, st_mul, st_quo, st_rem, st_eql, st_neq, st_lss, st_leq, st_gtr, st_geq, st_seq, st_sneq, st_beq, st_bneq, st_not, st_neg, st_lenS, st_capS, st_lenT, st_fldA, st_conv, st_pick, st_ext0, st_ext1, st_ext2, st_ext3, st_nilS, st_nilP, st_nilF, st_nilE, st_nilN, st_none, st_some, st_true, st_false, nilC, add_lit, Nat.zero_add, Nat.add_zero, nth0, nth1, nth2, nth3, nth4, nth5, nth6, List.getElem?_cons_succ, List.getElem?_cons_zero, cond_true, cond_false, pSC_orp, pSC_andp, wrap_i64, Bool.not_true, Bool.not_false, i1, c1.fld (j := 0) rfl, c1.fld (j := 1) rfl]
      have hst := fun id => lastA_snoc (arms.take i) arms[i] n id
      simp only [← take_snoc hx] at hst
      have hnd : (mkeys T).Nodup := by obtain ⟨rs, _, hi⟩ := hw2; exact hi.ok.nd
      have hs3' : St w0 no (hp2 ++ []) w3 := hs3.re (fun _ => by simp only [cnt_nil, cnt_cons, cnt_append]; omega)
      refine F15_pc (arm_spec hw2 hs3' arms[i].2 arms[i].1 (fun hno => ?_) (fun hyes hp4 w4 hw4 hs4 => ?_))
      · try simp (disch := omega) only [pV_some, pE_some, pU_some, st_add, st_sub, st_mul, st_quo, st_rem, st_eql, st_neq, st_lss, st_leq, st_gtr, st_geq, st_seq, st_sneq, st_beq, st_bneq, st_not, st_neg, st_lenS, st_capS, st_lenT, st_fldA, st_conv, st_pick, st_ext0, st_ext1, st_ext2, st_ext3, st_nilS, st_nilP, st_nilF, st_nilE, st_nilN, st_none, st_some, st_true, st_false, nilC, add_lit, Nat.zero_add, Nat.add_zero, nth0, nth1, nth2, nth3, nth4, nth5, nth6, List.getElem?_cons_succ, List.getElem?_cons_zero, cond_true, cond_false, pSC_orp, pSC_andp, wrap_i64, Bool.not_true, Bool.not_false]
        refine hgo _ _ hlt ⟨T, hp2, by simp, hw2, fun id => ?_, hs3⟩
        rw [hst, if_neg (fun h => hno h.2), hT]
      · try simp (disch := omega) only [pV_some, pE_some, pU_some, st_add, st_sub, st_mul, st_quo, st_rem, st_eql, st_neq, st_lss, st_leq, st_gtr, st_geq, st_seq, st_sneq, st_beq, st_bneq, st_not, st_neg, st_lenS, st_capS, st_lenT, st_fldA, st_conv, st_pick, st_ext0, st_ext1, st_ext2, st_ext3, st_nilS, st_nilP, st_nilF, st_nilE, st_nilN, st_none, st_some, st_true, st_false, nilC, add_lit, Nat.zero_add, Nat.add_zero, nth0, nth1, nth2, nth3, nth4, nth5, nth6, List.getElem?_cons_succ, List.getElem?_cons_zero, cond_true, cond_false, pSC_orp, pSC_andp, wrap_i64, Bool.not_true, Bool.not_false]
        refine hgo _ _ hlt ⟨_, hp4, by simp, hw4, fun id => ?_, by simpa using hs4⟩
        rw [hst, mget_put, mget_del hnd]
        by_cases h : id = arms[i].2
        · rw [if_pos h, if_pos ⟨h.symm, hyes⟩]
        · rw [if_neg h, if_neg h, hT, if_neg (fun h' => h h'.1.symm)]
    · obtain rfl : i = arms.length := by simp at hlt; omega
      rw [List.take_length] at hT
      exact k2 n rfl hn2 p T hp2 w2 hw2 hT hs2

/-- The sorted list of a wheel's timers. -/
def insL (e : Int × Int) : List (Int × Int) → List (Int × Int)
  | [] => [e]
  | a :: L => if e.1 < a.1 ∨ (e.1 = a.1 ∧ e.2 < a.2) then e :: a :: L else a :: insL e L
def remL (id : Int) (L : List (Int × Int)) : List (Int × Int) := L.filter fun e => decide (e.2 ≠ id)
theorem insL_perm (e : Int × Int) : ∀ L, (insL e L).Perm (e :: L)
  | [] => List.Perm.refl _
  | a :: L => by
    rw [insL]
    split
    · exact List.Perm.refl _
    · exact ((insL_perm e L).cons a).trans (List.Perm.swap e a L)
theorem insL_sorted {e : Int × Int} : ∀ {L : List (Int × Int)}, L.Pairwise lt2 → (∀ a ∈ L, a.2 ≠ e.2) → (insL e L).Pairwise lt2
  | [], _, _ => by simp [insL]
  | a :: L, h, hn => by
    rw [List.pairwise_cons] at h
    rw [insL]
    split
    · rename_i hlt
      rw [List.pairwise_cons, List.pairwise_cons]
      refine ⟨fun b hb => ?_, h⟩
      rcases List.mem_cons.1 hb with rfl | hb
      · exact hlt
      · exact lt2.trans (b := a) hlt (h.1 b hb)
    · rename_i hlt
      rw [List.pairwise_cons]
      refine ⟨fun b hb => ?_, insL_sorted h.2 (fun c hc => hn c (List.mem_cons_of_mem _ hc))⟩
      have hb := (insL_perm e L).mem_iff.1 hb
      rcases List.mem_cons.1 hb with rfl | hb
      · have := hn a (List.mem_cons_self ..)
        unfold lt2; omega
      · exact h.1 b hb
theorem Abs.rem {T L : List (Int × Int)} (h : Abs T L) (hn : (mkeys T).Nodup) (id : Int) : Abs (mdel T id) (remL id L) := by
  refine ⟨?_, h.srt.filter _⟩
  have h1 := h.perm.filter (fun e : Int × Int => decide (e.2 ≠ id))
  refine h1.trans ?_
  rw [List.filter_map, mdel_filter hn]
  apply List.Perm.of_eq
  congr 1
theorem Abs.ins {T L : List (Int × Int)} (h : Abs T L) {id t : Int} (hn : mget T id = none) : Abs (mput T id t) (insL (t, id) L) := by
  rw [mkeys_put_new hn]
  have hne : ∀ a ∈ L, a.2 ≠ (t, id).2 := by
    intro a ha he
    have := h.perm.mem_iff.1 ha
    obtain ⟨e, hm, hx⟩ := List.mem_map.1 this
    have : id ∈ mkeys T := List.mem_map.2 ⟨e, hm, by have h2 : a.2 = id := he; rw [← h2, ← hx]; rfl⟩
    exact mget_none.1 hn this
  refine ⟨?_, insL_sorted h.srt hne⟩
  refine (insL_perm _ _).trans ?_
  rw [List.map_append]
  exact (h.perm.cons (t, id)).trans (List.perm_append_comm (l₁ := [(t, id)]) (l₂ := T.map swp))
/-- Sorting any timers. -/
theorem exists_abs : ∀ (T : List (Int × Int)), (mkeys T).Nodup → ∃ L, Abs T L
  | [], _ => ⟨[], abs_nil⟩
  | (id, t) :: T, h => by
    simp only [mkeys, List.map_cons, List.nodup_cons] at h
    obtain ⟨L, hL⟩ := exists_abs T h.2
    have := hL.ins (id := id) (t := t) (mget_none.2 h.1)
    rw [mkeys_put_new (mget_none.2 h.1)] at this
    refine ⟨_, ?_, this.srt⟩
    refine this.perm.trans ?_
    rw [List.map_append]
    exact List.perm_append_comm
theorem Abs.uniq {T T' L L' : List (Int × Int)} (h : Abs T L) (h' : Abs T' L') (hn : (mkeys T).Nodup) (hn' : (mkeys T').Nodup) (he : ∀ id, mget T id = mget T' id) : L = L' :=
  sorted_eq h.srt h'.srt (fun x => by obtain ⟨t, id⟩ := x; rw [h.mem hn, h'.mem hn', he])
end Go.Proofs.Ytbbjljhbiaeadaa
