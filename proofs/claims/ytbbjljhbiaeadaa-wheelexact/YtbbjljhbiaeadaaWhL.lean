/- wheel: WheelForgets. -/
import Derived.Test.YtbbjljhbiaeadaaWhJ
set_option linter.unusedSimpArgs false
set_option linter.unusedVariables false
set_option maxRecDepth 100000
namespace Go.Proofs.Ytbbjljhbiaeadaa
open Go.Bk Go.RowKit

theorem remL_append (id : Int) (a b : List (Int × Int)) : remL id (a ++ b) = remL id a ++ remL id b := by unfold remL; rw [List.filter_append]
theorem remL_idem (id : Int) (L : List (Int × Int)) : remL id (remL id L) = remL id L := by
  unfold remL
  rw [List.filter_filter]
  simp
theorem remL_ins (t id : Int) : ∀ L, remL id (insL (t, id) L) = remL id L
  | [] => by simp [insL, remL]
  | a :: L => by
    have ih := remL_ins t id L
    rw [insL]
    split
    · unfold remL; rw [List.filter_cons_of_neg (by simp)]
    · unfold remL at ih ⊢
      rw [List.filter_cons, List.filter_cons, ih]
def cntL (id : Int) (L : List (Int × Int)) : Nat := (L.filter fun e => decide (e.2 = id)).length
theorem cntL_append (id : Int) (a b : List (Int × Int)) : cntL id (a ++ b) = cntL id a + cntL id b := by unfold cntL; rw [List.filter_append, List.length_append]
theorem cntL_rem (id : Int) (L : List (Int × Int)) : cntL id (remL id L) = 0 := by
  unfold cntL remL
  rw [List.length_eq_zero_iff, List.filter_eq_nil_iff]
  intro e he
  have := (List.mem_filter.1 he).2
  simpa using this
theorem cntL_ins (t id : Int) (L : List (Int × Int)) : cntL id (insL (t, id) (remL id L)) = 1 := by
  unfold cntL
  have h := ((insL_perm (t, id) (remL id L)).filter (fun e : Int × Int => decide (e.2 = id))).length_eq
  rw [h, List.filter_cons_of_pos (by simp)]
  have := cntL_rem id L
  unfold cntL at this
  simp [this]

/-- Two lists, the timers of a number apart: how far one is in the first where one is so far in the second. -/
theorem walk_same {id : Int} {L L' : List (Int × Int)} (h : remL id L' = remL id L) {i k : Nat} (hk : remL id (L.take k) = remL id (L'.take i)) : remL id (L.drop k) = remL id (L'.drop i) := by
  have h1 : remL id (L.take k) ++ remL id (L.drop k) = remL id (L'.take i) ++ remL id (L'.drop i) := by
    rw [← remL_append, ← remL_append, List.take_append_drop, List.take_append_drop, h]
  rw [hk] at h1
  exact List.append_cancel_left h1
theorem remL_skip {id : Int} {L : List (Int × Int)} {k : Nat} {e : Int × Int} (he : L[k]? = some e) (h : e.2 = id) : remL id (L.take (k + 1)) = remL id (L.take k) := by
  rw [take_snoc he, remL_append]; unfold remL; simp [h]
theorem remL_step {id : Int} {L : List (Int × Int)} {k : Nat} {e : Int × Int} (he : L[k]? = some e) (h : e.2 ≠ id) : remL id (L.take (k + 1)) = remL id (L.take k) ++ [e] := by
  rw [take_snoc he, remL_append]; unfold remL; simp [h]
theorem drop_head {α : Type} {L : List α} {k : Nat} {e : α} (he : L[k]? = some e) : L.drop k = e :: L.drop (k + 1) := by
  obtain ⟨h1, h2⟩ := List.getElem?_eq_some_iff.1 he
  rw [List.drop_eq_getElem_cons h1, h2]
theorem remL_head {id : Int} {L : List (Int × Int)} {k : Nat} {e : Int × Int} (he : L[k]? = some e) (h : e.2 ≠ id) : remL id (L.drop k) = e :: remL id (L.drop (k + 1)) := by
  rw [drop_head he]; unfold remL; rw [List.filter_cons_of_pos (by simpa using h)]

theorem forgets_spec (so : SortOK) {w0 : World} {va : Value} {arms : List (Int × Int)} (ha : RdF w0 va arms) (hal : arms.length ≤ 9223372036854775807) (now id tick : Int) (anew : Bool) {K : Value → World → Prop}
    (k : ∀ w', St w0 no [] w' → K (.bool true) w') : F4 (.int .i64 now) va (.int .i64 id) (.int .i64 tick) (.bool anew) w0 K := by
  unfold F4
  refine F6_pc (filled_spec ha hal now (fun hbad w1 hs1 => ?_) (fun n hn hn2 p1 T1 hp1 w1 hw1 hT1 hs1 => ?_))
  · refine F6_pc (filled_spec (ha.gr hs1.tr) hal now (fun _ w2 hs2 => ?_) (fun n hn hn2 p2 T2 hp2 w2 hw2 hT2 hs2 => by omega))
    have hb : (decide (now < 0) || decide (1099511627776 < now)) = true := by simp; omega
    try simp (disch := omega) only [pV_some, pE_some, pU_some, st_add, st_sub, st_mul, st_quo, st_rem, st_eql, st_neq, st_lss, st_leq, st_gtr, st_geq, st_seq, st_sneq, st_beq, st_bneq, st_not, st_neg, st_lenS, st_capS, st_lenT, st_fldA, st_conv, st_pick, st_ext0, st_ext1, st_ext2, st_ext3, st_nilS, st_nilP, st_nilF, st_nilE, st_nilN, st_none, st_some, st_true, st_false, nilC, add_lit, Nat.zero_add, Nat.add_zero, nth0, nth1, nth2, nth3, nth4, nth5, nth6, List.getElem?_cons_succ, List.getElem?_cons_zero, cond_true, cond_false, pSC_orp, pSC_andp, wrap_i64, Bool.not_true, Bool.not_false, ha.len, hb, Bool.true_or]
    exact k w2 ((hs1.call hs2).re (fun _ => by simp only [cnt_nil, cnt_cons, cnt_append]; omega))
  subst hn
  refine F6_pc (filled_spec (ha.gr hs1.tr) hal n (fun hbad w2 hs2 => by omega) (fun n2 hn' _ p2 T2 hp2 w2 hw2 hT2 hs2' => ?_))
  obtain rfl : n = n2 := by omega
  have hs2 := hs1.call hs2'
  try simp (disch := omega) only [pV_some, pE_some, pU_some, st_add, st_sub, st_mul, st_quo, st_rem, st_eql, st_neq, st_lss, st_leq, st_gtr, st_geq, st_seq, st_sneq, st_beq, st_bneq, st_not, st_neg, st_lenS, st_capS, st_lenT, st_fldA, st_conv, st_pick, st_ext0, st_ext1, st_ext2, st_ext3, st_nilS, st_nilP, st_nilF, st_nilE, st_nilN, st_none, st_some, st_true, st_false, nilC, add_lit, Nat.zero_add, Nat.add_zero, nth0, nth1, nth2, nth3, nth4, nth5, nth6, List.getElem?_cons_succ, List.getElem?_cons_zero, cond_true, cond_false, pSC_orp, pSC_andp, wrap_i64, Bool.not_true, Bool.not_false, ha.len, Bool.false_or, Bool.or_self]
  refine pIf_of (fun hbig => ?_) (fun hbig => ?_)
  · have hb : (decide ((n : Int) < 0) || decide (1099511627776 < (n : Int))) = false := by simp; omega
    try simp (disch := omega) only [pV_some, pE_some, pU_some, st_add, st_sub, st_mul, st_quo, st_rem, st_eql, st_neq, st_lss, st_leq, st_gtr, st_geq, st_seq, st_sneq, st_beq, st_bneq, st_not, st_neg, st_lenS, st_capS, st_lenT, st_fldA, st_conv, st_pick, st_ext0, st_ext1, st_ext2, st_ext3, st_nilS, st_nilP, st_nilF, st_nilE, st_nilN, st_none, st_some, st_true, st_false, nilC, add_lit, Nat.zero_add, Nat.add_zero, nth0, nth1, nth2, nth3, nth4, nth5, nth6, List.getElem?_cons_succ, List.getElem?_cons_zero, cond_true, cond_false, pSC_orp, pSC_andp, wrap_i64, Bool.not_true, Bool.not_false, hb, Bool.false_or, Bool.and_self]
    exact k w2 (hs2.re (fun _ => by simp only [cnt_nil, cnt_cons, cnt_append]; omega))
  have hok1 := hw1.ok
  obtain ⟨L, hL⟩ := exists_abs T1 hok1.nd
  obtain ⟨L2, hL2⟩ := exists_abs T2 hw2.ok.nd
  obtain rfl : L2 = L := hL2.uniq hL hw2.ok.nd hok1.nd (fun id => by rw [hT1, hT2])
  have hwb : WheelAt p2 n L2 hp2 := ⟨T2, hw2, hL2⟩
  obtain ⟨hsrt, hrng, hLl, _⟩ := hwb.ok
  have hs3 : St w0 no (hp1 ++ hp2) w2 := hs2.re (fun _ => by simp only [cnt_nil, cnt_cons, cnt_append]; omega)
  refine F14_pc (when_spec hw1 hs3 id ?_)
  try simp (disch := omega) only [pV_some, pE_some, pU_some, st_add, st_sub, st_mul, st_quo, st_rem, st_eql, st_neq, st_lss, st_leq, st_gtr, st_geq, st_seq, st_sneq, st_beq, st_bneq, st_not, st_neg, st_lenS, st_capS, st_lenT, st_fldA, st_conv, st_pick, st_ext0, st_ext1, st_ext2, st_ext3, st_nilS, st_nilP, st_nilF, st_nilE, st_nilN, st_none, st_some, st_true, st_false, nilC, add_lit, Nat.zero_add, Nat.add_zero, nth0, nth1, nth2, nth3, nth4, nth5, nth6, List.getElem?_cons_succ, List.getElem?_cons_zero, cond_true, cond_false, pSC_orp, pSC_andp, wrap_i64, Bool.not_true, Bool.not_false]
  refine F9_pc (len_spec hw1 hs3 ?_)
  have hlen := hL.len
  -- what stands behind the change
  refine ⟨fun vs w => vs = [] ∧ ∃ (L' : List (Int × Int)) (hp3 : HP), WheelAt p1 n L' hp3 ∧ St w0 no (hp3 ++ hp2) w ∧ remL id L' = remL id L2 ∧ (∀ e ∈ L', e.2 = id → anew = true ∧ e.1 = tick) ∧ cntL id L' = (if anew then 1 else 0), ?_, ?_⟩
  · cases anew with
    | true =>
      refine pIf_true ?_
      refine F15_pc (arm_spec hw1 hs3 id tick (fun hno => ?_) (fun hyes hp4 w4 hw4 hs4 => ?_))
      · try simp (disch := omega) only [pV_some, pE_some, pU_some, st_add, st_sub, st_mul, st_quo, st_rem, st_eql, st_neq, st_lss, st_leq, st_gtr, st_geq, st_seq, st_sneq, st_beq, st_bneq, st_not, st_neg, st_lenS, st_capS, st_lenT, st_fldA, st_conv, st_pick, st_ext0, st_ext1, st_ext2, st_ext3, st_nilS, st_nilP, st_nilF, st_nilE, st_nilN, st_none, st_some, st_true, st_false, nilC, add_lit, Nat.zero_add, Nat.add_zero, nth0, nth1, nth2, nth3, nth4, nth5, nth6, List.getElem?_cons_succ, List.getElem?_cons_zero, cond_true, cond_false, pSC_orp, pSC_andp, wrap_i64, Bool.not_true, Bool.not_false]
        refine pV_eq (show _ = some (frV (tick, id)) from rfl) ?_
        have hm : ¬ mayP n (tick, id) := hno
        refine F16_pc (may_spec (tick, id) n (fun w5 hs5' => ?_))
        have hs5 : St w0 no (hp1 ++ hp2) w5 := (hs3.call hs5').re (fun _ => by simp only [cnt_nil, cnt_cons, cnt_append]; omega)
        simp only [hm, decide_false]
        try simp (disch := omega) only [pV_some, pE_some, pU_some, st_add, st_sub, st_mul, st_quo, st_rem, st_eql, st_neq, st_lss, st_leq, st_gtr, st_geq, st_seq, st_sneq, st_beq, st_bneq, st_not, st_neg, st_lenS, st_capS, st_lenT, st_fldA, st_conv, st_pick, st_ext0, st_ext1, st_ext2, st_ext3, st_nilS, st_nilP, st_nilF, st_nilE, st_nilN, st_none, st_some, st_true, st_false, nilC, add_lit, Nat.zero_add, Nat.add_zero, nth0, nth1, nth2, nth3, nth4, nth5, nth6, List.getElem?_cons_succ, List.getElem?_cons_zero, cond_true, cond_false, pSC_orp, pSC_andp, wrap_i64, Bool.not_true, Bool.not_false]
        refine pIf_of (fun h => by simp at h) (fun _ => ?_)
        refine pIf_of (fun _ => ?_) (fun h => by simp at h)
        refine F14_pc (when_spec hw1 hs5 id ?_)
        try simp (disch := omega) only [pV_some, pE_some, pU_some, st_add, st_sub, st_mul, st_quo, st_rem, st_eql, st_neq, st_lss, st_leq, st_gtr, st_geq, st_seq, st_sneq, st_beq, st_bneq, st_not, st_neg, st_lenS, st_capS, st_lenT, st_fldA, st_conv, st_pick, st_ext0, st_ext1, st_ext2, st_ext3, st_nilS, st_nilP, st_nilF, st_nilE, st_nilN, st_none, st_some, st_true, st_false, nilC, add_lit, Nat.zero_add, Nat.add_zero, nth0, nth1, nth2, nth3, nth4, nth5, nth6, List.getElem?_cons_succ, List.getElem?_cons_zero, cond_true, cond_false, pSC_orp, pSC_andp, wrap_i64, Bool.not_true, Bool.not_false, eq_self, decide_true, beq_self_eq_true, Bool.and_self]
        refine pSC_and_t rfl ?_
        refine F9_pc (len_spec hw1 hs5 ?_)
        try simp (disch := omega) only [pV_some, pE_some, pU_some, st_add, st_sub, st_mul, st_quo, st_rem, st_eql, st_neq, st_lss, st_leq, st_gtr, st_geq, st_seq, st_sneq, st_beq, st_bneq, st_not, st_neg, st_lenS, st_capS, st_lenT, st_fldA, st_conv, st_pick, st_ext0, st_ext1, st_ext2, st_ext3, st_nilS, st_nilP, st_nilF, st_nilE, st_nilN, st_none, st_some, st_true, st_false, nilC, add_lit, Nat.zero_add, Nat.add_zero, nth0, nth1, nth2, nth3, nth4, nth5, nth6, List.getElem?_cons_succ, List.getElem?_cons_zero, cond_true, cond_false, pSC_orp, pSC_andp, wrap_i64, Bool.not_true, Bool.not_false, eq_self, decide_true]
        exact k w5 (hs5.re (fun _ => by simp only [cnt_nil, cnt_cons, cnt_append]; omega))
      · try simp (disch := omega) only [pV_some, pE_some, pU_some, st_add, st_sub, st_mul, st_quo, st_rem, st_eql, st_neq, st_lss, st_leq, st_gtr, st_geq, st_seq, st_sneq, st_beq, st_bneq, st_not, st_neg, st_lenS, st_capS, st_lenT, st_fldA, st_conv, st_pick, st_ext0, st_ext1, st_ext2, st_ext3, st_nilS, st_nilP, st_nilF, st_nilE, st_nilN, st_none, st_some, st_true, st_false, nilC, add_lit, Nat.zero_add, Nat.add_zero, nth0, nth1, nth2, nth3, nth4, nth5, nth6, List.getElem?_cons_succ, List.getElem?_cons_zero, cond_true, cond_false, pSC_orp, pSC_andp, wrap_i64, Bool.not_true, Bool.not_false]
        refine pV_eq (show _ = some (frV (tick, id)) from rfl) ?_
        have hm : mayP n (tick, id) := hyes
        refine F16_pc (may_spec (tick, id) n (fun w5 hs5' => ?_))
        have hs5 : St w0 no (hp4 ++ hp2) w5 := (hs4.call hs5').re (fun _ => by simp only [cnt_nil, cnt_cons, cnt_append]; omega)
        simp only [hm, decide_true]
        try simp (disch := omega) only [pV_some, pE_some, pU_some, st_add, st_sub, st_mul, st_quo, st_rem, st_eql, st_neq, st_lss, st_leq, st_gtr, st_geq, st_seq, st_sneq, st_beq, st_bneq, st_not, st_neg, st_lenS, st_capS, st_lenT, st_fldA, st_conv, st_pick, st_ext0, st_ext1, st_ext2, st_ext3, st_nilS, st_nilP, st_nilF, st_nilE, st_nilN, st_none, st_some, st_true, st_false, nilC, add_lit, Nat.zero_add, Nat.add_zero, nth0, nth1, nth2, nth3, nth4, nth5, nth6, List.getElem?_cons_succ, List.getElem?_cons_zero, cond_true, cond_false, pSC_orp, pSC_andp, wrap_i64, Bool.not_true, Bool.not_false]
        refine pIf_of (fun h => absurd h (by decide)) (fun _ => ?_)
        refine ⟨trivial, insL (tick, id) (remL id L2), hp4, ⟨_, hw4, (hL.rem hok1.nd id).ins (by rw [mget_del hok1.nd]; simp)⟩, hs5, by rw [remL_ins, remL_idem], fun e he hid => ⟨trivial, ?_⟩, by rw [cntL_ins]; rfl⟩
        rcases List.mem_cons.1 ((insL_perm _ _).mem_iff.1 he) with rfl | he
        · rfl
        · have := (List.mem_filter.1 he).2
          simp [hid] at this
    | false =>
      refine pIf_false ?_
      refine F17_pc (cancel_spec hw1 hs3 id (fun hp4 w4 hw4 hs4 => ?_))
      try simp (disch := omega) only [pV_some, pE_some, pU_some, st_add, st_sub, st_mul, st_quo, st_rem, st_eql, st_neq, st_lss, st_leq, st_gtr, st_geq, st_seq, st_sneq, st_beq, st_bneq, st_not, st_neg, st_lenS, st_capS, st_lenT, st_fldA, st_conv, st_pick, st_ext0, st_ext1, st_ext2, st_ext3, st_nilS, st_nilP, st_nilF, st_nilE, st_nilN, st_none, st_some, st_true, st_false, nilC, add_lit, Nat.zero_add, Nat.add_zero, nth0, nth1, nth2, nth3, nth4, nth5, nth6, List.getElem?_cons_succ, List.getElem?_cons_zero, cond_true, cond_false, pSC_orp, pSC_andp, wrap_i64, Bool.not_true, Bool.not_false, beq_self_eq_true, Bool.not_true]
      refine pSC_or_f (by simp) ?_
      refine F17_pc (cancel_spec hw4 hs4 id (fun hp5 w5 hw5 hs5 => ?_))
      have hnone : mget (mdel T1 id) id = none := by rw [mget_del hok1.nd]; simp
      rw [hnone]
      refine pIf_of (fun h => by cases h) (fun _ => ?_)
      have hL4 := hL.rem hok1.nd id
      have hL5 := hL4.rem (mkeys_del hok1.nd id) id
      rw [remL_idem] at hL5
      refine ⟨trivial, remL id L2, hp5, ⟨_, hw5, hL5⟩, hs5, remL_idem _ _, fun e he hid => ?_, by rw [cntL_rem]; rfl⟩
      have := (List.mem_filter.1 he).2
      simp [hid] at this
  · rintro vs w4 ⟨rfl, L', hp3, hw3, hs4, hrem, hthe, hcnt⟩
    obtain ⟨hsrt', hrng', hLl', _⟩ := hw3.ok
    obtain ⟨hup, hab⟩ := upTo_all (t := 1099511627776) (fun e he => by have := hrng' e he; omega)
    obtain ⟨hup2, hab2⟩ := upTo_all (t := 1099511627776) (fun e he => by have := hrng e he; omega)
    refine F7_pc (advance_spec so hw3 hs4 1099511627776 (fun h => by omega) (fun tn htn _ _ l hl hp5 w5 hol hw5 hs5 => ?_))
    rw [hup] at hol
    try simp (disch := omega) only [pV_some, pE_some, pU_some, st_add, st_sub, st_mul, st_quo, st_rem, st_eql, st_neq, st_lss, st_leq, st_gtr, st_geq, st_seq, st_sneq, st_beq, st_bneq, st_not, st_neg, st_lenS, st_capS, st_lenT, st_fldA, st_conv, st_pick, st_ext0, st_ext1, st_ext2, st_ext3, st_nilS, st_nilP, st_nilF, st_nilE, st_nilN, st_none, st_some, st_true, st_false, nilC, add_lit, Nat.zero_add, Nat.add_zero, nth0, nth1, nth2, nth3, nth4, nth5, nth6, List.getElem?_cons_succ, List.getElem?_cons_zero, cond_true, cond_false, pSC_orp, pSC_andp, wrap_i64, Bool.not_true, Bool.not_false]
    refine F7_pc (advance_spec so hwb (r := hl) (hs5.re (fun _ => by simp only [cnt_nil, cnt_cons, cnt_append]; omega)) 1099511627776 (fun h => by omega) (fun tn2 htn2 _ _ m hm hp6 w6 hom hw6 hs6 => ?_))
    rw [hup2] at hom
    have hs7 : St w0 no (hl ++ hm) w6 := hs6.re (fun _ => by simp only [cnt_nil, cnt_cons, cnt_append]; omega)
    have rl : ∀ w, St w0 no (hl ++ hm) w → RdF w l L' := fun w h => hol.reads h
    have rm : ∀ w, St w0 no (hl ++ hm) w → RdF w m L2 := fun w h => hom.reads (h := hl) (h.re (fun _ => by simp only [cnt_nil, cnt_cons, cnt_append]; omega))
    clear hs1 hs2 hs2' hs3 hs4 hs5 hs6 hw5 hw6
    try simp (disch := omega) only [pV_some, pE_some, pU_some, st_add, st_sub, st_mul, st_quo, st_rem, st_eql, st_neq, st_lss, st_leq, st_gtr, st_geq, st_seq, st_sneq, st_beq, st_bneq, st_not, st_neg, st_lenS, st_capS, st_lenT, st_fldA, st_conv, st_pick, st_ext0, st_ext1, st_ext2, st_ext3, st_nilS, st_nilP, st_nilF, st_nilE, st_nilN, st_none, st_some, st_true, st_false, nilC, add_lit, Nat.zero_add, Nat.add_zero, nth0, nth1, nth2, nth3, nth4, nth5, nth6, List.getElem?_cons_succ, List.getElem?_cons_zero, cond_true, cond_false, pSC_orp, pSC_andp, wrap_i64, Bool.not_true, Bool.not_false]
    -- the timers of the number are left out
    have skip : ∀ (kk : Nat) (w : World), kk ≤ L2.length → St w0 no (hl ++ hm) w → ∀ (B : List Value → World → Prop), (∀ k' w', kk ≤ k' → k' ≤ L2.length → remL id (L2.take k') = remL id (L2.take kk) → (∀ e, L2[k']? = some e → e.2 ≠ id) → St w0 no (hl ++ hm) w' → B [.int .i64 (k' : Nat)] w') →
        pLoop [.int .i64 (kk : Nat)] w fun go13 vs13 w =>
                pV (binV .lss (nth vs13 0) (.int .i64 (L2.length : Nat))) fun t149_59 =>
                pSC true t149_59 w (fun J14 =>
                  pV (idxV 2 m (nth vs13 0)) fun t153_60 =>
                  pV (fldA 1 t153_60) fun t154_61 =>
                  pV (ldV false 1 w t154_61) fun t155_62 =>
                  pV (binV .eql t155_62 (.int .i64 id)) fun t157_63 =>
                  J14 t157_63 w)
                (fun t158_64 w =>
                pIf t158_64
                (pV (binV .add (nth vs13 0) (.int .i64 1)) fun t160_65 =>
                  go13 [t160_65] w)
                (B vs13 w)) := by
      intro kk w hkk hs B hB
      refine pLoop_up (I := fun k' vs w' => vs = [.int .i64 (k' : Nat)] ∧ kk ≤ k' ∧ remL id (L2.take k') = remL id (L2.take kk) ∧ St w0 no (hl ++ hm) w') L2.length kk hkk ⟨rfl, Nat.le_refl _, rfl, hs⟩ ?_
      rintro k' vs w' hk' ⟨rfl, hkk', hr, hs'⟩ go hgo
      try simp (disch := omega) only [pV_some, pE_some, pU_some, st_add, st_sub, st_mul, st_quo, st_rem, st_eql, st_neq, st_lss, st_leq, st_gtr, st_geq, st_seq, st_sneq, st_beq, st_bneq, st_not, st_neg, st_lenS, st_capS, st_lenT, st_fldA, st_conv, st_pick, st_ext0, st_ext1, st_ext2, st_ext3, st_nilS, st_nilP, st_nilF, st_nilE, st_nilN, st_none, st_some, st_true, st_false, nilC, add_lit, Nat.zero_add, Nat.add_zero, nth0, nth1, nth2, nth3, nth4, nth5, nth6, List.getElem?_cons_succ, List.getElem?_cons_zero, cond_true, cond_false, pSC_orp, pSC_andp, wrap_i64, Bool.not_true, Bool.not_false]
      by_cases hlt : k' < L2.length
      · have hx := List.getElem?_eq_getElem hlt
        obtain ⟨ad, i1, c1⟩ := RdC.fat (rm w' hs') hx (x := k') rfl
        try simp (disch := omega) only [pV_some, pE_some, pU_some, st_add, st_sub, st_mul, st_quo, st_rem, st_eql, st_neq, st_lss, st_leq, st_gtr, st_geq, st_seq, st_sneq, st_beq, st_bneq, st_not, st_neg, st_lenS, st_capS, st_lenT, st_fldA, st_conv, st_pick, st_ext0, st_ext1, st_ext2, st_ext3, st_nilS, st_nilP, st_nilF, st_nilE, st_nilN, st_none, st_some, st_true, st_false, nilC, add_lit, Nat.zero_add, Nat.add_zero, nth0, nth1, nth2, nth3, nth4, nth5, nth6, List.getElem?_cons_succ, List.getElem?_cons_zero, cond_true, cond_false, pSC_orp, pSC_andp, wrap_i64, Bool.not_true, Bool.not_false, i1, c1.fld (j := 1) rfl]
        refine pIf_of (fun h => ?_) (fun h => ?_)
        · have h : L2[k'].2 = id := by simp at h; exact h.2
          exact hgo _ _ hlt ⟨by simp, by omega, by rw [remL_skip hx h, hr], hs'⟩
        · refine hB k' w' hkk' (by omega) hr (fun e he => ?_) hs'
          rw [hx] at he; cases he
          simp at h; exact h hlt
      · refine pSC_and_f (by simpa using hlt) ?_
        refine pIf_of (fun h => by cases h) (fun _ => ?_)
        refine hB k' w' hkk' hk' hr (fun e he => ?_) hs'
        have := (List.getElem?_eq_some_iff.1 he).1
        omega
    have hcl : ∀ i, cntL id (L'.take i) ≤ 1 := by
      intro i
      have h1 : cntL id (L'.take i) + cntL id (L'.drop i) = cntL id L' := by rw [← cntL_append, List.take_append_drop]
      rw [hcnt] at h1
      split at h1 <;> omega
    refine pLoop_up (I := fun i vs w' => ∃ kk : Nat, vs = [.int .i64 (kk : Nat), .int .i64 (cntL id (L'.take i) : Nat), .int .i64 (i : Nat)] ∧ kk ≤ L2.length ∧ remL id (L2.take kk) = remL id (L'.take i) ∧ St w0 no (hl ++ hm) w') L'.length 0 (Nat.zero_le _) ⟨0, rfl, Nat.zero_le _, rfl, hs7⟩ ?_
    rintro i vs w7 hi ⟨kk, rfl, hkk, hr, hs8⟩ go hgo
    try simp (disch := omega) only [pV_some, pE_some, pU_some, st_add, st_sub, st_mul, st_quo, st_rem, st_eql, st_neq, st_lss, st_leq, st_gtr, st_geq, st_seq, st_sneq, st_beq, st_bneq, st_not, st_neg, st_lenS, st_capS, st_lenT, st_fldA, st_conv, st_pick, st_ext0, st_ext1, st_ext2, st_ext3, st_nilS, st_nilP, st_nilF, st_nilE, st_nilN, st_none, st_some, st_true, st_false, nilC, add_lit, Nat.zero_add, Nat.add_zero, nth0, nth1, nth2, nth3, nth4, nth5, nth6, List.getElem?_cons_succ, List.getElem?_cons_zero, cond_true, cond_false, pSC_orp, pSC_andp, wrap_i64, Bool.not_true, Bool.not_false, hol.len, hom.len]
    refine pIf_of (fun hlt => ?_) (fun hlt => ?_)
    · have hlt : i < L'.length := by simpa using hlt
      have hx := List.getElem?_eq_getElem hlt
      obtain ⟨ad, i1, c1⟩ := RdC.fat (rl w7 hs8) hx (x := i) rfl
      have hcs : cntL id (L'.take (i + 1)) = cntL id (L'.take i) + (if L'[i].2 = id then 1 else 0) := by
        rw [take_snoc hx, cntL_append]
        congr 1
        unfold cntL
        by_cases h : L'[i].2 = id <;> simp [h]
      refine ⟨fun vs w => ∃ kk' : Nat, vs = [.int .i64 (kk' : Nat), .int .i64 (cntL id (L'.take (i + 1)) : Nat)] ∧ kk' ≤ L2.length ∧ remL id (L2.take kk') = remL id (L'.take (i + 1)) ∧ St w0 no (hl ++ hm) w, ?_, ?_⟩
      · try simp (disch := omega) only [pV_some, pE_some, pU_some, st_add, st_sub, st_mul, st_quo, st_rem, st_eql, st_neq, st_lss, st_leq, st_gtr, st_geq, st_seq, st_sneq, st_beq, st_bneq, st_not, st_neg, st_lenS, st_capS, st_lenT, st_fldA, st_conv, st_pick, st_ext0, st_ext1, st_ext2, st_ext3, st_nilS, st_nilP, st_nilF, st_nilE, st_nilN, st_none, st_some, st_true, st_false, nilC, add_lit, Nat.zero_add, Nat.add_zero, nth0, nth1, nth2, nth3, nth4, nth5, nth6, List.getElem?_cons_succ, List.getElem?_cons_zero, cond_true, cond_false, pSC_orp, pSC_andp, wrap_i64, Bool.not_true, Bool.not_false, i1, c1.fld (j := 1) rfl]
        have hc1 := hcl i
        refine pIf_of (fun hid => ?_) (fun hid => ?_)
        · have hid : L'[i].2 = id := by simpa using hid
          obtain ⟨h1, h2⟩ := hthe _ (List.getElem_mem hlt) hid
          subst h1
          try simp (disch := omega) only [pV_some, pE_some, pU_some, st_add, st_sub, st_mul, st_quo, st_rem, st_eql, st_neq, st_lss, st_leq, st_gtr, st_geq, st_seq, st_sneq, st_beq, st_bneq, st_not, st_neg, st_lenS, st_capS, st_lenT, st_fldA, st_conv, st_pick, st_ext0, st_ext1, st_ext2, st_ext3, st_nilS, st_nilP, st_nilF, st_nilE, st_nilN, st_none, st_some, st_true, st_false, nilC, add_lit, Nat.zero_add, Nat.add_zero, nth0, nth1, nth2, nth3, nth4, nth5, nth6, List.getElem?_cons_succ, List.getElem?_cons_zero, cond_true, cond_false, pSC_orp, pSC_andp, wrap_i64, Bool.not_true, Bool.not_false, c1.fld (j := 0) rfl, h2, eq_self, decide_true, Bool.not_true, Bool.or_self]
          refine ⟨kk, ?_, hkk, by rw [remL_skip hx hid]; exact hr, hs8⟩
          rw [hcs, if_pos hid]
          simp
        · have hid : L'[i].2 ≠ id := by simpa using hid
          refine skip kk w7 hkk hs8 _ (fun k' w' hk1 hk2 hk3 hk4 hs' => ?_)
          have hrd := walk_same hrem (hk3.trans hr)
          rw [remL_head hx hid] at hrd
          have hlt' : k' < L2.length := by
            rcases Nat.lt_or_ge k' L2.length with h | h
            · exact h
            · rw [List.drop_of_length_le h] at hrd; simp [remL] at hrd
          have hy := List.getElem?_eq_getElem hlt'
          have hne := hk4 _ hy
          rw [remL_head hy hne] at hrd
          have heq : L2[k'] = L'[i] := (List.cons.inj hrd).1
          refine pDraw_st hs' (fun w9 hs9 ht9 => ?_)
          obtain ⟨ad2, i2, c2⟩ := RdC.fat (rm w9 hs9) hy (x := k') rfl
          obtain ⟨ad3, i3, c3⟩ := RdC.fat (rl w9 hs9) hx (x := i) rfl
          obtain rfl : ad3 = ad := by rw [i1] at i3; cases i3; rfl
          have hge : (decide ((L2.length : Int) ≤ (k' : Int))) = false := by simp; omega
          try simp (disch := omega) only [pV_some, pE_some, pU_some, st_add, st_sub, st_mul, st_quo, st_rem, st_eql, st_neq, st_lss, st_leq, st_gtr, st_geq, st_seq, st_sneq, st_beq, st_bneq, st_not, st_neg, st_lenS, st_capS, st_lenT, st_fldA, st_conv, st_pick, st_ext0, st_ext1, st_ext2, st_ext3, st_nilS, st_nilP, st_nilF, st_nilE, st_nilN, st_none, st_some, st_true, st_false, nilC, add_lit, Nat.zero_add, Nat.add_zero, nth0, nth1, nth2, nth3, nth4, nth5, nth6, List.getElem?_cons_succ, List.getElem?_cons_zero, cond_true, cond_false, pSC_orp, pSC_andp, wrap_i64, Bool.not_true, Bool.not_false, i2, fr_ld c2, fr_ld c3, eq_fir, heq, eq_self, decide_true, Bool.not_true, hge, Bool.or_self]
          refine ⟨k' + 1, ?_, by omega, ?_, hs9⟩
          · rw [hcs, if_neg hid]; simp
          · rw [remL_step hy hne, remL_step hx hid, hk3, hr, heq]
      · rintro vs w8 ⟨kk', rfl, hkk', hr', hs9⟩
        try simp (disch := omega) only [pV_some, pE_some, pU_some, st_add, st_sub, st_mul, st_quo, st_rem, st_eql, st_neq, st_lss, st_leq, st_gtr, st_geq, st_seq, st_sneq, st_beq, st_bneq, st_not, st_neg, st_lenS, st_capS, st_lenT, st_fldA, st_conv, st_pick, st_ext0, st_ext1, st_ext2, st_ext3, st_nilS, st_nilP, st_nilF, st_nilE, st_nilN, st_none, st_some, st_true, st_false, nilC, add_lit, Nat.zero_add, Nat.add_zero, nth0, nth1, nth2, nth3, nth4, nth5, nth6, List.getElem?_cons_succ, List.getElem?_cons_zero, cond_true, cond_false, pSC_orp, pSC_andp, wrap_i64, Bool.not_true, Bool.not_false]
        exact hgo _ _ hlt ⟨kk', by simp, hkk', hr', hs9⟩
    · obtain rfl : i = L'.length := by simp at hlt; omega
      rw [List.take_length] at hr ⊢
      try simp (disch := omega) only [pV_some, pE_some, pU_some, st_add, st_sub, st_mul, st_quo, st_rem, st_eql, st_neq, st_lss, st_leq, st_gtr, st_geq, st_seq, st_sneq, st_beq, st_bneq, st_not, st_neg, st_lenS, st_capS, st_lenT, st_fldA, st_conv, st_pick, st_ext0, st_ext1, st_ext2, st_ext3, st_nilS, st_nilP, st_nilF, st_nilE, st_nilN, st_none, st_some, st_true, st_false, nilC, add_lit, Nat.zero_add, Nat.add_zero, nth0, nth1, nth2, nth3, nth4, nth5, nth6, List.getElem?_cons_succ, List.getElem?_cons_zero, cond_true, cond_false, pSC_orp, pSC_andp, wrap_i64, Bool.not_true, Bool.not_false]
      refine skip kk w7 hkk hs8 _ (fun k' w' hk1 hk2 hk3 hk4 hs' => ?_)
      have hr2 : remL id (L2.take k') = remL id (L'.take L'.length) := by rw [List.take_length, hk3, hr]
      have hrd := walk_same hrem hr2
      rw [List.drop_of_length_le (Nat.le_refl _)] at hrd
      have hend : k' = L2.length := by
        rcases Nat.lt_or_ge k' L2.length with h | h
        · have hy := List.getElem?_eq_getElem h
          rw [remL_head hy (hk4 _ hy)] at hrd
          simp [remL] at hrd
        · omega
      subst hend
      have hnl : decide ((L2.length : Int) = (T1.length : Int)) = true := by rw [hlen]; simp
      have hfin : (decide (((cntL id L' : Nat) : Int) = 1) == anew) = true := by
        rw [hcnt]
        cases anew <;> simp
      try simp (disch := omega) only [pV_some, pE_some, pU_some, st_add, st_sub, st_mul, st_quo, st_rem, st_eql, st_neq, st_lss, st_leq, st_gtr, st_geq, st_seq, st_sneq, st_beq, st_bneq, st_not, st_neg, st_lenS, st_capS, st_lenT, st_fldA, st_conv, st_pick, st_ext0, st_ext1, st_ext2, st_ext3, st_nilS, st_nilP, st_nilF, st_nilE, st_nilN, st_none, st_some, st_true, st_false, nilC, add_lit, Nat.zero_add, Nat.add_zero, nth0, nth1, nth2, nth3, nth4, nth5, nth6, List.getElem?_cons_succ, List.getElem?_cons_zero, cond_true, cond_false, pSC_orp, pSC_andp, wrap_i64, Bool.not_true, Bool.not_false, eq_self, decide_true, hnl, hfin, Bool.and_self]
      exact k w' (hs'.re (fun _ => by simp only [cnt_nil, cnt_cons, cnt_append]; omega))
end Go.Proofs.Ytbbjljhbiaeadaa
