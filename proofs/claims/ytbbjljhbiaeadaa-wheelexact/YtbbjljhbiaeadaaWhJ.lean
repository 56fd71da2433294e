/- wheel: WheelFires. -/
import Derived.Test.YtbbjljhbiaeadaaWhI
set_option linter.unusedSimpArgs false
set_option linter.unusedVariables false
set_option maxRecDepth 100000
namespace Go.Proofs.Ytbbjljhbiaeadaa
open Go.Bk Go.RowKit

theorem WheelAt.ok {p now : Nat} {L : List (Int × Int)} {hp : HP} (h : WheelAt p now L hp) : L.Pairwise lt2 ∧ (∀ e ∈ L, (now : Int) ≤ e.1 ∧ e.1 < 1099511627776 ∧ 0 ≤ e.2 ∧ e.2 ≤ 65535) ∧ L.length ≤ 65536 ∧ now ≤ 1099511627776 := by
  obtain ⟨T, ⟨rs, _, hi⟩, ha⟩ := h
  refine ⟨ha.srt, fun e he => ?_, by rw [ha.len]; exact hi.ok.keys, hi.ok.n⟩
  have hg := (ha.mem hi.ok.nd (t := e.1) (id := e.2)).1 he
  have h1 := hi.ok.t _ _ hg
  have h2 := hi.ok.id _ _ hg
  exact ⟨h1.1, h1.2, h2.1, h2.2⟩
theorem WInv.ok {p now : Nat} {T : List (Int × Int)} {hp : HP} (h : WInv p now T hp) : Ok now T := by obtain ⟨rs, _, hi⟩ := h; exact hi.ok

theorem nextL_spec {w0 w : World} {M : Nat → Prop} {p now : Nat} {L : List (Int × Int)} {hp r : HP} (hw : WheelAt p now L hp) (hs : St w0 M (hp ++ r) w) {K : Value → World → Prop}
    (k1 : L = [] → ∀ w', St w0 M (hp ++ r) w' → K (.tuple #[.int .i64 0, .bool false]) w')
    (k2 : ∀ e L', L = e :: L' → ∀ w', St w0 M (hp ++ r) w' → K (.tuple #[.int .i64 e.1, .bool true]) w') : F12 (.pointer (some ⟨p, 0, none⟩)) w K := by
  obtain ⟨T, hwi, ha⟩ := hw
  have hok := hwi.ok
  refine next_spec hwi hs (fun hn w1 hs1 => k1 ?_ w1 hs1) (fun t hex hmin w1 hs1 => ?_)
  · apply List.eq_nil_iff_forall_not_mem.2
    intro e he
    have := (ha.mem hok.nd (t := e.1) (id := e.2)).1 he
    rw [hn] at this; cases this
  · obtain ⟨id, hg⟩ := hex
    have hm := (ha.mem hok.nd).2 hg
    match L, ha, hm with
    | e :: L', ha, hm =>
      have h1 := hmin e.2 e.1 ((ha.mem hok.nd).1 (List.mem_cons_self ..))
      have h2 : e.1 ≤ t := by
        rcases List.mem_cons.1 hm with he | hm
        · rw [← he]; exact Int.le_refl _
        · have := (List.pairwise_cons.1 ha.srt).1 _ hm
          unfold lt2 at this; omega
      have e1 : t = e.1 := by omega
      rw [e1]
      exact k2 e L' rfl w1 hs1
theorem nowL_spec {w0 w : World} {M : Nat → Prop} {p now : Nat} {L : List (Int × Int)} {hp r : HP} (hw : WheelAt p now L hp) (hs : St w0 M (hp ++ r) w) {K : Value → World → Prop}
    (k : K (.int .i64 now) w) : F10 (.pointer (some ⟨p, 0, none⟩)) w K := by
  obtain ⟨T, hwi, ha⟩ := hw
  exact now_spec hwi hs k
theorem lenL_spec {w0 w : World} {M : Nat → Prop} {p now : Nat} {L : List (Int × Int)} {hp r : HP} (hw : WheelAt p now L hp) (hs : St w0 M (hp ++ r) w) {K : Value → World → Prop}
    (k : K (.int .i64 L.length) w) : F9 (.pointer (some ⟨p, 0, none⟩)) w K := by
  obtain ⟨T, hwi, ha⟩ := hw
  exact len_spec hwi hs (by rw [← ha.len]; exact k)

theorem upTo_all {t : Int} {L : List (Int × Int)} (h : ∀ e ∈ L, e.1 ≤ t) : upTo t L = L ∧ above t L = [] := by
  unfold upTo above
  exact ⟨List.filter_eq_self.2 (fun e he => by simpa using h e he), List.filter_eq_nil_iff.2 (fun e he => by have := h e he; simp; omega)⟩

theorem fires_spec (so : SortOK) {w0 : World} {va vs : Value} {arms : List (Int × Int)} {steps : List Int} (ha : RdF w0 va arms) (hst : RdI w0 vs steps) (hal : arms.length ≤ 9223372036854775807) (hsl : steps.length ≤ 9223372036854775807) (now : Int) {K : Value → World → Prop}
    (k : ∀ w', St w0 no [] w' → K (.bool true) w') : F3 (.int .i64 now) va vs w0 K := by
  unfold F3
  refine F6_pc (filled_spec ha hal now (fun hbad w1 hs1 => ?_) (fun n hn hn2 p1 T1 hp1 w1 hw1 hT1 hs1 => ?_))
  · refine F6_pc (filled_spec (ha.gr hs1.tr) hal now (fun _ w2 hs2 => ?_) (fun n hn hn2 p2 T2 hp2 w2 hw2 hT2 hs2 => by omega))
    have hb : (decide (now < 0) || decide (1099511627776 < now)) = true := by simp; omega
    try simp (disch := omega) only [pV_some, pE_some, pU_some, st_add, st_sub, st_mul, st_quo, st_rem, st_eql, st_neq, st_lss, st_leq, st_gtr, st_geq, st_seq, st_sneq, st_beq, st_bneq, st_not, st_neg, st_lenS, st_capS, st_lenT, st_fldA, st_conv, st_pick, st_ext0, st_ext1, st_ext2, st_ext3, st_nilS, st_nilP, st_nilF, st_nilE, st_nilN, st_none, st_some, st_true, st_false, nilC, add_lit, Nat.zero_add, Nat.add_zero, nth0, nth1, nth2, nth3, nth4, nth5, nth6, List.getElem?_cons_succ, List.getElem?_cons_zero, cond_true, cond_false, pSC_orp, pSC_andp, wrap_i64, Bool.not_true, Bool.not_false, ha.len, hst.len, hb, Bool.true_or, Bool.true_beq, BEq.rfl]
    exact k w2 ((hs1.call hs2).re (fun _ => by simp only [cnt_nil, cnt_cons, cnt_append]; omega))
  subst hn
  refine F6_pc (filled_spec (ha.gr hs1.tr) hal n (fun hbad w2 hs2 => by omega) (fun n2 hn' _ p2 T2 hp2 w2 hw2 hT2 hs2' => ?_))
  obtain rfl : n = n2 := by omega
  have hs2 := hs1.call hs2'
  have hb : (decide ((n : Int) < 0) || decide (1099511627776 < (n : Int))) = false := by simp; omega
  try simp (disch := omega) only [pV_some, pE_some, pU_some, st_add, st_sub, st_mul, st_quo, st_rem, st_eql, st_neq, st_lss, st_leq, st_gtr, st_geq, st_seq, st_sneq, st_beq, st_bneq, st_not, st_neg, st_lenS, st_capS, st_lenT, st_fldA, st_conv, st_pick, st_ext0, st_ext1, st_ext2, st_ext3, st_nilS, st_nilP, st_nilF, st_nilE, st_nilN, st_none, st_some, st_true, st_false, nilC, add_lit, Nat.zero_add, Nat.add_zero, nth0, nth1, nth2, nth3, nth4, nth5, nth6, List.getElem?_cons_succ, List.getElem?_cons_zero, cond_true, cond_false, pSC_orp, pSC_andp, wrap_i64, Bool.not_true, Bool.not_false, ha.len, hst.len, hb, Bool.false_or]
  refine pIf_of (fun hbig => ?_) (fun hbig => ?_)
  · try simp (disch := omega) only [pV_some, pE_some, pU_some, st_add, st_sub, st_mul, st_quo, st_rem, st_eql, st_neq, st_lss, st_leq, st_gtr, st_geq, st_seq, st_sneq, st_beq, st_bneq, st_not, st_neg, st_lenS, st_capS, st_lenT, st_fldA, st_conv, st_pick, st_ext0, st_ext1, st_ext2, st_ext3, st_nilS, st_nilP, st_nilF, st_nilE, st_nilN, st_none, st_some, st_true, st_false, nilC, add_lit, Nat.zero_add, Nat.add_zero, nth0, nth1, nth2, nth3, nth4, nth5, nth6, List.getElem?_cons_succ, List.getElem?_cons_zero, cond_true, cond_false, pSC_orp, pSC_andp, wrap_i64, Bool.not_true, Bool.not_false, hb, BEq.rfl, beq_self_eq_true]
    exact k w2 (hs2.re (fun _ => by simp only [cnt_nil, cnt_cons, cnt_append]; omega))
  have hbig : arms.length ≤ 3000 ∧ steps.length ≤ 3000 := by simp at hbig; omega
  try simp (disch := omega) only [pV_some, pE_some, pU_some, st_add, st_sub, st_mul, st_quo, st_rem, st_eql, st_neq, st_lss, st_leq, st_gtr, st_geq, st_seq, st_sneq, st_beq, st_bneq, st_not, st_neg, st_lenS, st_capS, st_lenT, st_fldA, st_conv, st_pick, st_ext0, st_ext1, st_ext2, st_ext3, st_nilS, st_nilP, st_nilF, st_nilE, st_nilN, st_none, st_some, st_true, st_false, nilC, add_lit, Nat.zero_add, Nat.add_zero, nth0, nth1, nth2, nth3, nth4, nth5, nth6, List.getElem?_cons_succ, List.getElem?_cons_zero, cond_true, cond_false, pSC_orp, pSC_andp, wrap_i64, Bool.not_true, Bool.not_false, Bool.or_self]
  have hok1 := hw1.ok
  obtain ⟨L, hL⟩ := exists_abs T1 hok1.nd
  obtain ⟨L2, hL2⟩ := exists_abs T2 hw2.ok.nd
  obtain rfl : L2 = L := hL2.uniq hL hw2.ok.nd hok1.nd (fun id => by rw [hT1, hT2])
  have hwa : WheelAt p1 n L2 hp1 := ⟨T1, hw1, hL⟩
  have hwb : WheelAt p2 n L2 hp2 := ⟨T2, hw2, hL2⟩
  obtain ⟨hsrt, hrng, hLl, _⟩ := hwa.ok
  obtain ⟨hup, hab⟩ := upTo_all (t := 1099511627776) (fun e he => by have := hrng e he; omega)
  refine F7_pc (advance_spec so hwa (r := hp2) (hs2.re (fun _ => by simp only [cnt_nil, cnt_cons, cnt_append]; omega)) 1099511627776 (fun h => by omega) (fun tn htn _ _ l hl hp3 w3 hol hw3 hs3 => ?_))
  rw [hup] at hol
  rw [hab] at hw3
  have rl : ∀ w, St w0 no (hl ++ (hp3 ++ hp2)) w → RdF w l L2 := fun w h => hol.reads h
  try simp (disch := omega) only [pV_some, pE_some, pU_some, st_add, st_sub, st_mul, st_quo, st_rem, st_eql, st_neq, st_lss, st_leq, st_gtr, st_geq, st_seq, st_sneq, st_beq, st_bneq, st_not, st_neg, st_lenS, st_capS, st_lenT, st_fldA, st_conv, st_pick, st_ext0, st_ext1, st_ext2, st_ext3, st_nilS, st_nilP, st_nilF, st_nilE, st_nilN, st_none, st_some, st_true, st_false, nilC, add_lit, Nat.zero_add, Nat.add_zero, nth0, nth1, nth2, nth3, nth4, nth5, nth6, List.getElem?_cons_succ, List.getElem?_cons_zero, cond_true, cond_false, pSC_orp, pSC_andp, wrap_i64, Bool.not_true, Bool.not_false]
  refine pSC_or_f (by simp) ?_
  refine F8_pc (ordered_spec (rl w3 hs3) (by omega) hsrt (n : Int) 1099511627775 (fun e he => by have := hrng e he; omega) (fun w4 hs4' => ?_))
  have hs4 : St w0 no (hl ++ (hp3 ++ hp2)) w4 := (hs3.call hs4').re (fun _ => by simp only [cnt_nil, cnt_cons, cnt_append]; omega)
  try simp (disch := omega) only [pV_some, pE_some, pU_some, st_add, st_sub, st_mul, st_quo, st_rem, st_eql, st_neq, st_lss, st_leq, st_gtr, st_geq, st_seq, st_sneq, st_beq, st_bneq, st_not, st_neg, st_lenS, st_capS, st_lenT, st_fldA, st_conv, st_pick, st_ext0, st_ext1, st_ext2, st_ext3, st_nilS, st_nilP, st_nilF, st_nilE, st_nilN, st_none, st_some, st_true, st_false, nilC, add_lit, Nat.zero_add, Nat.add_zero, nth0, nth1, nth2, nth3, nth4, nth5, nth6, List.getElem?_cons_succ, List.getElem?_cons_zero, cond_true, cond_false, pSC_orp, pSC_andp, wrap_i64, Bool.not_true, Bool.not_false]
  refine pSC_or_f rfl ?_
  refine F9_pc (lenL_spec hw3 (r := hl ++ hp2) (hs4.re (fun _ => by simp only [cnt_nil, cnt_cons, cnt_append]; omega)) ?_)
  try simp (disch := omega) only [pV_some, pE_some, pU_some, st_add, st_sub, st_mul, st_quo, st_rem, st_eql, st_neq, st_lss, st_leq, st_gtr, st_geq, st_seq, st_sneq, st_beq, st_bneq, st_not, st_neg, st_lenS, st_capS, st_lenT, st_fldA, st_conv, st_pick, st_ext0, st_ext1, st_ext2, st_ext3, st_nilS, st_nilP, st_nilF, st_nilE, st_nilN, st_none, st_some, st_true, st_false, nilC, add_lit, Nat.zero_add, Nat.add_zero, nth0, nth1, nth2, nth3, nth4, nth5, nth6, List.getElem?_cons_succ, List.getElem?_cons_zero, cond_true, cond_false, pSC_orp, pSC_andp, wrap_i64, Bool.not_true, Bool.not_false]
  refine pSC_or_f rfl ?_
  refine F10_pc (nowL_spec hw3 (r := hl ++ hp2) (hs4.re (fun _ => by simp only [cnt_nil, cnt_cons, cnt_append]; omega)) ?_)
  have htn : ((tn : Nat) : Int) = 1099511627776 := by omega
  try simp (disch := omega) only [pV_some, pE_some, pU_some, st_add, st_sub, st_mul, st_quo, st_rem, st_eql, st_neq, st_lss, st_leq, st_gtr, st_geq, st_seq, st_sneq, st_beq, st_bneq, st_not, st_neg, st_lenS, st_capS, st_lenT, st_fldA, st_conv, st_pick, st_ext0, st_ext1, st_ext2, st_ext3, st_nilS, st_nilP, st_nilF, st_nilE, st_nilN, st_none, st_some, st_true, st_false, nilC, add_lit, Nat.zero_add, Nat.add_zero, nth0, nth1, nth2, nth3, nth4, nth5, nth6, List.getElem?_cons_succ, List.getElem?_cons_zero, cond_true, cond_false, pSC_orp, pSC_andp, wrap_i64, Bool.not_true, Bool.not_false, htn, eq_self, decide_true]
  have hmemL : ∀ t id, (t, id) ∈ L2 ↔ lastA arms n id = some t := fun t id => by rw [hL.mem hok1.nd, hT1]
  have hs5 : St w0 no (hl ++ hp2) w4 := hs4.re (fun _ => by simp only [cnt_nil, cnt_cons, cnt_append]; omega)
  have rl5 : ∀ w, St w0 no (hl ++ hp2) w → RdF w l L2 := fun w h => hol.reads h
  clear hs1 hs2 hs2' hs3 hs4 hs4' hw3 rl
  -- each that has run out was armed so
  refine pLoop_up (I := fun i vs w => vs = [.int .i64 (i : Nat)] ∧ St w0 no (hl ++ hp2) w) L2.length 0 (Nat.zero_le _) ⟨rfl, hs5⟩ ?_
  rintro i vs w6 hi ⟨rfl, hs6⟩ go hgo
  try simp (disch := omega) only [pV_some, pE_some, pU_some, st_add, st_sub, st_mul, st_quo, st_rem, st_eql, st_neq, st_lss, st_leq, st_gtr, st_geq, st_seq, st_sneq, st_beq, st_bneq, st_not, st_neg, st_lenS, st_capS, st_lenT, st_fldA, st_conv, st_pick, st_ext0, st_ext1, st_ext2, st_ext3, st_nilS, st_nilP, st_nilF, st_nilE, st_nilN, st_none, st_some, st_true, st_false, nilC, add_lit, Nat.zero_add, Nat.add_zero, nth0, nth1, nth2, nth3, nth4, nth5, nth6, List.getElem?_cons_succ, List.getElem?_cons_zero, cond_true, cond_false, pSC_orp, pSC_andp, wrap_i64, Bool.not_true, Bool.not_false, hol.len]
  refine pIf_of (fun hlt => ?_) (fun hlt => ?_)
  · have hlt : i < L2.length := by simpa using hlt
    have hx := List.getElem?_eq_getElem hlt
    obtain ⟨ad, i1, c1⟩ := RdC.fat (rl5 w6 hs6) hx (x := i) rfl
    have hla := (hmemL L2[i].1 L2[i].2).1 (List.getElem_mem hlt)
    try simp (disch := omega) only [pV_some, pE_some, pU_some, st_add, st_sub, st_mul, st_quo, st_rem, st_eql, st_neq, st_lss, st_leq, st_gtr, st_geq, st_seq, st_sneq, st_beq, st_bneq, st_not, st_neg, st_lenS, st_capS, st_lenT, st_fldA, st_conv, st_pick, st_ext0, st_ext1, st_ext2, st_ext3, st_nilS, st_nilP, st_nilF, st_nilE, st_nilN, st_none, st_some, st_true, st_false, nilC, add_lit, Nat.zero_add, Nat.add_zero, nth0, nth1, nth2, nth3, nth4, nth5, nth6, List.getElem?_cons_succ, List.getElem?_cons_zero, cond_true, cond_false, pSC_orp, pSC_andp, wrap_i64, Bool.not_true, Bool.not_false, i1, c1.fld (j := 1) rfl]
    refine F11_pc (last_spec (ha.gr hs6.tr) hal n L2[i].2 (fun w7 hs7' => ?_))
    have c2 := c1.tr hs7'.tr (fun h => h)
    have hs7 : St w0 no (hl ++ hp2) w7 := (hs6.call hs7').re (fun _ => by simp only [cnt_nil, cnt_cons, cnt_append]; omega)
    try simp (disch := omega) only [pV_some, pE_some, pU_some, st_add, st_sub, st_mul, st_quo, st_rem, st_eql, st_neq, st_lss, st_leq, st_gtr, st_geq, st_seq, st_sneq, st_beq, st_bneq, st_not, st_neg, st_lenS, st_capS, st_lenT, st_fldA, st_conv, st_pick, st_ext0, st_ext1, st_ext2, st_ext3, st_nilS, st_nilP, st_nilF, st_nilE, st_nilN, st_none, st_some, st_true, st_false, nilC, add_lit, Nat.zero_add, Nat.add_zero, nth0, nth1, nth2, nth3, nth4, nth5, nth6, List.getElem?_cons_succ, List.getElem?_cons_zero, cond_true, cond_false, pSC_orp, pSC_andp, wrap_i64, Bool.not_true, Bool.not_false, hla, Option.isSome_some, Option.getD_some, c2.fld (j := 0) rfl, eq_self, decide_true, Bool.or_self]
    exact hgo _ _ hlt ⟨by simp, hs7⟩
  -- each that was armed has run out
  try simp (disch := omega) only [pV_some, pE_some, pU_some, st_add, st_sub, st_mul, st_quo, st_rem, st_eql, st_neq, st_lss, st_leq, st_gtr, st_geq, st_seq, st_sneq, st_beq, st_bneq, st_not, st_neg, st_lenS, st_capS, st_lenT, st_fldA, st_conv, st_pick, st_ext0, st_ext1, st_ext2, st_ext3, st_nilS, st_nilP, st_nilF, st_nilE, st_nilN, st_none, st_some, st_true, st_false, nilC, add_lit, Nat.zero_add, Nat.add_zero, nth0, nth1, nth2, nth3, nth4, nth5, nth6, List.getElem?_cons_succ, List.getElem?_cons_zero, cond_true, cond_false, pSC_orp, pSC_andp, wrap_i64, Bool.not_true, Bool.not_false]
  refine pLoop_up (I := fun i vs w => vs = [.int .i64 (i : Nat)] ∧ St w0 no (hl ++ hp2) w) arms.length 0 (Nat.zero_le _) ⟨rfl, hs6⟩ ?_
  rintro i2 vs w8 hi2 ⟨rfl, hs8⟩ go2 hgo2
  try simp (disch := omega) only [pV_some, pE_some, pU_some, st_add, st_sub, st_mul, st_quo, st_rem, st_eql, st_neq, st_lss, st_leq, st_gtr, st_geq, st_seq, st_sneq, st_beq, st_bneq, st_not, st_neg, st_lenS, st_capS, st_lenT, st_fldA, st_conv, st_pick, st_ext0, st_ext1, st_ext2, st_ext3, st_nilS, st_nilP, st_nilF, st_nilE, st_nilN, st_none, st_some, st_true, st_false, nilC, add_lit, Nat.zero_add, Nat.add_zero, nth0, nth1, nth2, nth3, nth4, nth5, nth6, List.getElem?_cons_succ, List.getElem?_cons_zero, cond_true, cond_false, pSC_orp, pSC_andp, wrap_i64, Bool.not_true, Bool.not_false, ha.len]
  refine pIf_of (fun hlt2 => ?_) (fun hlt2 => ?_)
  · have hlt2 : i2 < arms.length := by simpa using hlt2
    have hx := List.getElem?_eq_getElem hlt2
    obtain ⟨ad, i1, c1⟩ := RdC.fat (ha.gr hs8.tr) hx (x := i2) rfl
    try simp (disch := omega) only [pV_some, pE_some, pU_some, st_add, st_sub, st_mul, st_quo, st_rem, st_eql, st_neq, st_lss, st_leq, st_gtr, st_geq, st_seq, st_sneq, st_beq, st_bneq, st_not, st_neg, st_lenS, st_capS, st_lenT, st_fldA, st_conv, st_pick, st_ext0, st_ext1, st_ext2, st_ext3, st_nilS, st_nilP, st_nilF, st_nilE, st_nilN, st_none, st_some, st_true, st_false, nilC, add_lit, Nat.zero_add, Nat.add_zero, nth0, nth1, nth2, nth3, nth4, nth5, nth6, List.getElem?_cons_succ, List.getElem?_cons_zero, cond_true, cond_false, pSC_orp, pSC_andp, wrap_i64, Bool.not_true, Bool.not_false, i1, c1.fld (j := 1) rfl]
    refine F11_pc (last_spec (ha.gr hs8.tr) hal n arms[i2].2 (fun w9 hs9' => ?_))
    have hs9 : St w0 no (hl ++ hp2) w9 := (hs8.call hs9').re (fun _ => by simp only [cnt_nil, cnt_cons, cnt_append]; omega)
    try simp (disch := omega) only [pV_some, pE_some, pU_some, st_add, st_sub, st_mul, st_quo, st_rem, st_eql, st_neq, st_lss, st_leq, st_gtr, st_geq, st_seq, st_sneq, st_beq, st_bneq, st_not, st_neg, st_lenS, st_capS, st_lenT, st_fldA, st_conv, st_pick, st_ext0, st_ext1, st_ext2, st_ext3, st_nilS, st_nilP, st_nilF, st_nilE, st_nilN, st_none, st_some, st_true, st_false, nilC, add_lit, Nat.zero_add, Nat.add_zero, nth0, nth1, nth2, nth3, nth4, nth5, nth6, List.getElem?_cons_succ, List.getElem?_cons_zero, cond_true, cond_false, pSC_orp, pSC_andp, wrap_i64, Bool.not_true, Bool.not_false]
    refine pLoop_up (I := fun j vs w => vs = [.bool ((L2.take j).any fun e => decide (e.2 = arms[i2].2)), .int .i64 (j : Nat)] ∧ St w0 no (hl ++ hp2) w ∧ Tr w8 no w) L2.length 0 (Nat.zero_le _) ⟨rfl, hs9, hs9'.tr⟩ ?_
    rintro j vs w10 hj ⟨rfl, hs10, ht10⟩ go3 hgo3
    try simp (disch := omega) only [pV_some, pE_some, pU_some, st_add, st_sub, st_mul, st_quo, st_rem, st_eql, st_neq, st_lss, st_leq, st_gtr, st_geq, st_seq, st_sneq, st_beq, st_bneq, st_not, st_neg, st_lenS, st_capS, st_lenT, st_fldA, st_conv, st_pick, st_ext0, st_ext1, st_ext2, st_ext3, st_nilS, st_nilP, st_nilF, st_nilE, st_nilN, st_none, st_some, st_true, st_false, nilC, add_lit, Nat.zero_add, Nat.add_zero, nth0, nth1, nth2, nth3, nth4, nth5, nth6, List.getElem?_cons_succ, List.getElem?_cons_zero, cond_true, cond_false, pSC_orp, pSC_andp, wrap_i64, Bool.not_true, Bool.not_false, hol.len]
    refine pIf_of (fun hlt3 => ?_) (fun hlt3 => ?_)
    · have hlt3 : j < L2.length := by simpa using hlt3
      have hy := List.getElem?_eq_getElem hlt3
      refine pDraw_st hs10 (fun w11 hs11 ht11 => ?_)
      obtain ⟨ad2, i3, c3⟩ := RdC.fat (rl5 w11 hs11) hy (x := j) rfl
      have c4 := c1.tr (ht10.then_ ht11) (fun h => h)
      try simp (disch := omega) only [pV_some, pE_some, pU_some, st_add, st_sub, st_mul, st_quo, st_rem, st_eql, st_neq, st_lss, st_leq, st_gtr, st_geq, st_seq, st_sneq, st_beq, st_bneq, st_not, st_neg, st_lenS, st_capS, st_lenT, st_fldA, st_conv, st_pick, st_ext0, st_ext1, st_ext2, st_ext3, st_nilS, st_nilP, st_nilF, st_nilE, st_nilN, st_none, st_some, st_true, st_false, nilC, add_lit, Nat.zero_add, Nat.add_zero, nth0, nth1, nth2, nth3, nth4, nth5, nth6, List.getElem?_cons_succ, List.getElem?_cons_zero, cond_true, cond_false, pSC_orp, pSC_andp, wrap_i64, Bool.not_true, Bool.not_false, i3, c3.fld (j := 1) rfl, c4.fld (j := 1) rfl]
      refine hgo3 _ _ hlt3 ⟨?_, hs11, ht10.then_ ht11⟩
      rw [take_snoc hy, List.any_append]
      simp
    · obtain rfl : j = L2.length := by simp at hlt3; omega
      rw [List.take_length]
      have he : (lastA arms n arms[i2].2).isSome = L2.any fun e => decide (e.2 = arms[i2].2) := by
        rw [Bool.eq_iff_iff]
        simp only [Option.isSome_iff_exists, List.any_eq_true, decide_eq_true_eq]
        constructor
        · rintro ⟨t, ht⟩
          exact ⟨(t, arms[i2].2), (hmemL _ _).2 ht, rfl⟩
        · rintro ⟨e, hm, he⟩
          exact ⟨e.1, (hmemL _ _).1 (by rw [← he]; exact hm)⟩
      try simp (disch := omega) only [pV_some, pE_some, pU_some, st_add, st_sub, st_mul, st_quo, st_rem, st_eql, st_neq, st_lss, st_leq, st_gtr, st_geq, st_seq, st_sneq, st_beq, st_bneq, st_not, st_neg, st_lenS, st_capS, st_lenT, st_fldA, st_conv, st_pick, st_ext0, st_ext1, st_ext2, st_ext3, st_nilS, st_nilP, st_nilF, st_nilE, st_nilN, st_none, st_some, st_true, st_false, nilC, add_lit, Nat.zero_add, Nat.add_zero, nth0, nth1, nth2, nth3, nth4, nth5, nth6, List.getElem?_cons_succ, List.getElem?_cons_zero, cond_true, cond_false, pSC_orp, pSC_andp, wrap_i64, Bool.not_true, Bool.not_false, he, beq_self_eq_true]
      exact hgo2 _ _ hlt2 ⟨by simp, hs10⟩
  -- in steps
  try simp (disch := omega) only [pV_some, pE_some, pU_some, st_add, st_sub, st_mul, st_quo, st_rem, st_eql, st_neq, st_lss, st_leq, st_gtr, st_geq, st_seq, st_sneq, st_beq, st_bneq, st_not, st_neg, st_lenS, st_capS, st_lenT, st_fldA, st_conv, st_pick, st_ext0, st_ext1, st_ext2, st_ext3, st_nilS, st_nilP, st_nilF, st_nilE, st_nilN, st_none, st_some, st_true, st_false, nilC, add_lit, Nat.zero_add, Nat.add_zero, nth0, nth1, nth2, nth3, nth4, nth5, nth6, List.getElem?_cons_succ, List.getElem?_cons_zero, cond_true, cond_false, pSC_orp, pSC_andp, wrap_i64, Bool.not_true, Bool.not_false]
  refine pLoop_up (I := fun i vs w => ∃ (told : Value) (hv hq : HP) (done Lw : List (Int × Int)) (nw : Nat), vs = [told, .int .i64 (i : Nat)] ∧ L2 = done ++ Lw ∧ OwnF told done hv ∧ WheelAt p2 nw Lw hq ∧ St w0 no (hl ++ (hv ++ hq)) w ∧ (i = steps.length + 1 → Lw = [])) (steps.length + 1) 0 (Nat.zero_le _) ⟨_, [], hp2, [], L2, n, rfl, rfl, ownS_nil _ _, hwb, hs8, fun h => by omega⟩ ?_
  clear hs5 hs6 hs8
  rintro i3 vs w12 hi3 ⟨told, hv, hq, done, Lw, nw, rfl, hsplit, hot, hww, hs12, hend⟩ go4 hgo4
  obtain ⟨hsw, hrw, hlw, hnw⟩ := hww.ok
  have hLd : done.length + Lw.length = L2.length := by rw [hsplit, List.length_append]
  try simp (disch := omega) only [pV_some, pE_some, pU_some, st_add, st_sub, st_mul, st_quo, st_rem, st_eql, st_neq, st_lss, st_leq, st_gtr, st_geq, st_seq, st_sneq, st_beq, st_bneq, st_not, st_neg, st_lenS, st_capS, st_lenT, st_fldA, st_conv, st_pick, st_ext0, st_ext1, st_ext2, st_ext3, st_nilS, st_nilP, st_nilF, st_nilE, st_nilN, st_none, st_some, st_true, st_false, nilC, add_lit, Nat.zero_add, Nat.add_zero, nth0, nth1, nth2, nth3, nth4, nth5, nth6, List.getElem?_cons_succ, List.getElem?_cons_zero, cond_true, cond_false, pSC_orp, pSC_andp, wrap_i64, Bool.not_true, Bool.not_false, hst.len]
  refine pIf_of (fun hlt4 => ?_) (fun hlt4 => ?_)
  · have hlt4 : i3 ≤ steps.length := by simp at hlt4; omega
    refine ⟨fun vs w => ∃ tn : Nat, vs = [.int .i64 (tn : Nat)] ∧ nw ≤ tn ∧ tn ≤ 1099511627776 ∧ (i3 = steps.length → tn = 1099511627776) ∧ St w0 no (hl ++ (hv ++ hq)) w, ?_, ?_⟩
    · refine pIf_of (fun hlt5 => ?_) (fun hlt5 => ?_)
      · have hlt5 : i3 < steps.length := by simpa using hlt5
        have hx := List.getElem?_eq_getElem hlt5
        refine F10_pc (nowL_spec hww (r := hl ++ hv) (hs12.re (fun _ => by simp only [cnt_nil, cnt_cons, cnt_append]; omega)) ?_)
        refine pDraw_st hs12 (fun w13 hs13 _ => ?_)
        obtain ⟨ad, j1, c1⟩ := (hst.gr hs13.tr).at1 (ints_at hx) (x := i3) rfl
        try simp (disch := omega) only [pV_some, pE_some, pU_some, st_add, st_sub, st_mul, st_quo, st_rem, st_eql, st_neq, st_lss, st_leq, st_gtr, st_geq, st_seq, st_sneq, st_beq, st_bneq, st_not, st_neg, st_lenS, st_capS, st_lenT, st_fldA, st_conv, st_pick, st_ext0, st_ext1, st_ext2, st_ext3, st_nilS, st_nilP, st_nilF, st_nilE, st_nilN, st_none, st_some, st_true, st_false, nilC, add_lit, Nat.zero_add, Nat.add_zero, nth0, nth1, nth2, nth3, nth4, nth5, nth6, List.getElem?_cons_succ, List.getElem?_cons_zero, cond_true, cond_false, pSC_orp, pSC_andp, wrap_i64, Bool.not_true, Bool.not_false, j1, ld1r c1]
        by_cases h0 : 0 ≤ steps[i3]
        · refine pSC_and_t (by simpa using h0) ?_
          unfold pKept
          refine F10_pc (nowL_spec hww (r := hl ++ hv) (hs13.re (fun _ => by simp only [cnt_nil, cnt_cons, cnt_append]; omega)) ?_)
          refine ⟨⟨⟨_, ld1r c1 1, ld1r c1 1⟩, trivial⟩, ?_⟩
          try simp (disch := omega) only [pV_some, pE_some, pU_some, st_add, st_sub, st_mul, st_quo, st_rem, st_eql, st_neq, st_lss, st_leq, st_gtr, st_geq, st_seq, st_sneq, st_beq, st_bneq, st_not, st_neg, st_lenS, st_capS, st_lenT, st_fldA, st_conv, st_pick, st_ext0, st_ext1, st_ext2, st_ext3, st_nilS, st_nilP, st_nilF, st_nilE, st_nilN, st_none, st_some, st_true, st_false, nilC, add_lit, Nat.zero_add, Nat.add_zero, nth0, nth1, nth2, nth3, nth4, nth5, nth6, List.getElem?_cons_succ, List.getElem?_cons_zero, cond_true, cond_false, pSC_orp, pSC_andp, wrap_i64, Bool.not_true, Bool.not_false]
          refine pIf_of (fun h1 => ?_) (fun h1 => ?_)
          · have h1 : steps[i3] ≤ 1099511627776 - (nw : Int) := by simpa using h1
            refine pDraw_st hs13 (fun w14 hs14 ht14 => ?_)
            have c2 := ht14.cell c1 (fun h => h)
            try simp (disch := omega) only [pV_some, pE_some, pU_some, st_add, st_sub, st_mul, st_quo, st_rem, st_eql, st_neq, st_lss, st_leq, st_gtr, st_geq, st_seq, st_sneq, st_beq, st_bneq, st_not, st_neg, st_lenS, st_capS, st_lenT, st_fldA, st_conv, st_pick, st_ext0, st_ext1, st_ext2, st_ext3, st_nilS, st_nilP, st_nilF, st_nilE, st_nilN, st_none, st_some, st_true, st_false, nilC, add_lit, Nat.zero_add, Nat.add_zero, nth0, nth1, nth2, nth3, nth4, nth5, nth6, List.getElem?_cons_succ, List.getElem?_cons_zero, cond_true, cond_false, pSC_orp, pSC_andp, wrap_i64, Bool.not_true, Bool.not_false, ld1r c2]
            refine F10_pc (nowL_spec hww (r := hl ++ hv) (hs14.re (fun _ => by simp only [cnt_nil, cnt_cons, cnt_append]; omega)) ?_)
            refine ⟨⟨⟨_, ld1r c2 1, ld1r c2 1⟩, trivial⟩, ?_⟩
            have e : (nw : Int) + steps[i3] = ((nw + steps[i3].toNat : Nat) : Int) := by omega
            try simp (disch := omega) only [pV_some, pE_some, pU_some, st_add, st_sub, st_mul, st_quo, st_rem, st_eql, st_neq, st_lss, st_leq, st_gtr, st_geq, st_seq, st_sneq, st_beq, st_bneq, st_not, st_neg, st_lenS, st_capS, st_lenT, st_fldA, st_conv, st_pick, st_ext0, st_ext1, st_ext2, st_ext3, st_nilS, st_nilP, st_nilF, st_nilE, st_nilN, st_none, st_some, st_true, st_false, nilC, add_lit, Nat.zero_add, Nat.add_zero, nth0, nth1, nth2, nth3, nth4, nth5, nth6, List.getElem?_cons_succ, List.getElem?_cons_zero, cond_true, cond_false, pSC_orp, pSC_andp, wrap_i64, Bool.not_true, Bool.not_false, e]
            exact ⟨nw + steps[i3].toNat, rfl, by omega, by omega, fun h => by omega, hs14⟩
          · exact ⟨nw, rfl, Nat.le_refl _, hnw, fun h => by omega, hs13⟩
        · refine pSC_and_f (by simpa using h0) ?_
          refine pIf_of (fun h => by cases h) (fun _ => ?_)
          exact ⟨nw, rfl, Nat.le_refl _, hnw, fun h => by omega, hs13⟩
      · exact ⟨1099511627776, rfl, hnw, Nat.le_refl _, fun _ => rfl, hs12⟩
    · rintro vs w13 ⟨tn, rfl, htn1, htn2, htn3, hs13⟩
      have hsp := split_sorted (tn : Int) hsw
      -- behind Next and Advance
      have rest : ∀ (nx : Int) (any : Bool) (w14 : World), St w0 no (hl ++ (hv ++ hq)) w14 → any = decide (done.length < L2.length) → (∀ e L', Lw = e :: L' → nx = e.1) →
          pCall Try.prog 7 [.pointer (some ⟨p2, 0, none⟩), .int .i64 (tn : Nat)] w14 fun t196_92 w =>
                pV (extV t196_92 0) fun t197_93 =>
                pV (extV t196_92 1) fun t198_94 =>
                pV (binV .neq t198_94 (.int .i64 0)) fun t200_95 =>
                pSC false t200_95 w (fun J19 =>
                  pV (lenS told) fun t204_96 =>
                  pV (binV .lss t204_96 (.int .i64 (L2.length : Nat))) fun t207_98 =>
                  pV (boolV .neq (.bool any) t207_98) fun t208_99 =>
                  J19 t208_99 w)
                (fun t209_100 w =>
                pSC false t209_100 w (fun J20 =>
                  pSC true (.bool any) w (fun J21 =>
                    pV (lenS told) fun t216_101 =>
                    pV (idxV 2 l t216_101) fun t217_102 =>
                    pV (fldA 0 t217_102) fun t218_103 =>
                    pV (ldV false 1 w t218_103) fun t219_104 =>
                    pV (binV .neq (.int .i64 nx) t219_104) fun t220_105 =>
                    J21 t220_105 w)
                  (fun t221_106 w =>
                  J20 t221_106 w))
                (fun t222_107 w =>
                pSC false t222_107 w (fun J22 =>
                  pV (lenS t197_93) fun t225_108 =>
                  pV (binV .gtr t225_108 (.int .i64 0)) fun t226_109 =>
                  pSC true t226_109 w (fun J23 =>
                    pV (idxV 2 t197_93 (.int .i64 0)) fun t229_110 =>
                    pV (fldA 0 t229_110) fun t230_111 =>
                    pV (ldV false 1 w t230_111) fun t231_112 =>
                    pV (binV .neq t231_112 (.int .i64 nx)) fun t233_113 =>
                    J23 t233_113 w)
                  (fun t234_114 w =>
                  J22 t234_114 w))
                (fun t235_115 w =>
                pIf t235_115
                (K (.bool false) w)
                (pE (semE Try.prog (Builtin.append_ #[22, 22] 22 #[told, t197_93]) w) fun t238_116 w =>
                  pV (lenS t238_116) fun t240_117 =>
                  pV (binV .gtr t240_117 (.int .i64 (L2.length : Nat))) fun t243_119 =>
                  pIf t243_119
                  (K (.bool false) w)
                  (go4 [t238_116, .int .i64 ((i3 : Int) + 1)] w))))) := by
        intro nx any w14 hs14 hany hnx
        refine F7_pc (advance_spec so hww (r := hl ++ hv) (hs14.re (fun _ => by simp only [cnt_nil, cnt_cons, cnt_append]; omega)) (tn : Int) (fun h => by omega) (fun tn' htn' _ _ m hm hq5 w15 hom hw5 hs15 => ?_))
        obtain rfl : tn = tn' := by omega
        have hs15' : St w0 no (hl ++ (hm ++ (hv ++ hq5))) w15 := hs15.re (fun _ => by simp only [cnt_nil, cnt_cons, cnt_append]; omega)
        have rl15 : RdF w15 l L2 := hol.reads hs15'
        have rm15 : RdF w15 m (upTo tn Lw) := hom.reads (h := hq5 ++ (hl ++ hv)) (hs15.re (fun _ => by simp only [cnt_nil, cnt_cons, cnt_append]; omega))
        have hul : (upTo tn Lw).length ≤ Lw.length := by unfold upTo; exact List.length_filter_le ..
        have hany2 : (!(any == decide ((done.length : Int) < (L2.length : Int)))) = false := by
          rw [hany]; simp
        try simp (disch := omega) only [pV_some, pE_some, pU_some, st_add, st_sub, st_mul, st_quo, st_rem, st_eql, st_neq, st_lss, st_leq, st_gtr, st_geq, st_seq, st_sneq, st_beq, st_bneq, st_not, st_neg, st_lenS, st_capS, st_lenT, st_fldA, st_conv, st_pick, st_ext0, st_ext1, st_ext2, st_ext3, st_nilS, st_nilP, st_nilF, st_nilE, st_nilN, st_none, st_some, st_true, st_false, nilC, add_lit, Nat.zero_add, Nat.add_zero, nth0, nth1, nth2, nth3, nth4, nth5, nth6, List.getElem?_cons_succ, List.getElem?_cons_zero, cond_true, cond_false, pSC_orp, pSC_andp, wrap_i64, Bool.not_true, Bool.not_false, hot.len, hol.len, hom.len, hany2, eq_self, decide_true, Bool.or_self]
        -- the first one's tick
        have hfirst : ∀ J : Value → World → Prop, J (.bool false) w15 → pSC true (.bool any) w15 (fun J21 =>
                    pV (idxV 2 l (.int .i64 (done.length : Nat))) fun t217_102 =>
                    pV (fldA 0 t217_102) fun t218_103 =>
                    pV (ldV false 1 w15 t218_103) fun t219_104 =>
                    pV (binV .neq (.int .i64 nx) t219_104) fun t220_105 =>
                    J21 t220_105 w15) J := by
          intro J hJ
          by_cases hc : done.length < L2.length
          · refine pSC_and_t (by rw [hany]; simpa using hc) ?_
            obtain hLw | ⟨e, L', hLw⟩ : Lw = [] ∨ ∃ e L', Lw = e :: L' := by
              cases Lw with
              | nil => exact .inl rfl
              | cons e L' => exact .inr ⟨e, L', rfl⟩
            · rw [hLw] at hLd; simp at hLd; omega
            ·
              have hge : L2[done.length]? = some e := by rw [hsplit, hLw, List.getElem?_append_right (Nat.le_refl _)]; simp
              obtain ⟨ad, i1, c1⟩ := RdC.fat rl15 hge (x := done.length) rfl
              have := hnx e L' hLw
              try simp (disch := omega) only [pV_some, pE_some, pU_some, st_add, st_sub, st_mul, st_quo, st_rem, st_eql, st_neq, st_lss, st_leq, st_gtr, st_geq, st_seq, st_sneq, st_beq, st_bneq, st_not, st_neg, st_lenS, st_capS, st_lenT, st_fldA, st_conv, st_pick, st_ext0, st_ext1, st_ext2, st_ext3, st_nilS, st_nilP, st_nilF, st_nilE, st_nilN, st_none, st_some, st_true, st_false, nilC, add_lit, Nat.zero_add, Nat.add_zero, nth0, nth1, nth2, nth3, nth4, nth5, nth6, List.getElem?_cons_succ, List.getElem?_cons_zero, cond_true, cond_false, pSC_orp, pSC_andp, wrap_i64, Bool.not_true, Bool.not_false, i1, c1.fld (j := 0) rfl, this, eq_self, decide_true]
              exact hJ
          · refine pSC_and_f (by rw [hany]; simp; omega) hJ
        have hsecond : ∀ J : Value → World → Prop, J (.bool false) w15 → pSC true (.bool (decide ((0 : Int) < ((upTo tn Lw).length : Nat)))) w15 (fun J23 =>
                    pV (idxV 2 m (.int .i64 0)) fun t229_110 =>
                    pV (fldA 0 t229_110) fun t230_111 =>
                    pV (ldV false 1 w15 t230_111) fun t231_112 =>
                    pV (binV .neq t231_112 (.int .i64 nx)) fun t233_113 =>
                    J23 t233_113 w15) J := by
          intro J hJ
          by_cases hc : 0 < (upTo (tn : Int) Lw).length
          · refine pSC_and_t (by simpa using hc) ?_
            have hx := List.getElem?_eq_getElem hc
            obtain ⟨ad, i1, c1⟩ := RdC.fat rm15 hx (x := 0) rfl
            have : (upTo (tn : Int) Lw)[0].1 = nx := by
              obtain hLw | ⟨e, L', hLw⟩ : Lw = [] ∨ ∃ e L', Lw = e :: L' := by
                cases Lw with
                | nil => exact .inl rfl
                | cons e L' => exact .inr ⟨e, L', rfl⟩
              · rw [hLw] at hul hc; simp [upTo] at hc
              ·
                have h1 := hnx e L' hLw
                subst hLw
                have h2 : (upTo (tn : Int) (e :: L') ++ above (tn : Int) (e :: L'))[0]? = some e := by rw [← hsp]; rfl
                rw [List.getElem?_append_left hc] at h2
                have h3 := (List.getElem?_eq_some_iff.1 h2).2
                rw [h3, h1]
            try simp (disch := omega) only [pV_some, pE_some, pU_some, st_add, st_sub, st_mul, st_quo, st_rem, st_eql, st_neq, st_lss, st_leq, st_gtr, st_geq, st_seq, st_sneq, st_beq, st_bneq, st_not, st_neg, st_lenS, st_capS, st_lenT, st_fldA, st_conv, st_pick, st_ext0, st_ext1, st_ext2, st_ext3, st_nilS, st_nilP, st_nilF, st_nilE, st_nilN, st_none, st_some, st_true, st_false, nilC, add_lit, Nat.zero_add, Nat.add_zero, nth0, nth1, nth2, nth3, nth4, nth5, nth6, List.getElem?_cons_succ, List.getElem?_cons_zero, cond_true, cond_false, pSC_orp, pSC_andp, wrap_i64, Bool.not_true, Bool.not_false, i1, c1.fld (j := 0) rfl, this, eq_self, decide_true]
            exact hJ
          · refine pSC_and_f (by simpa using hc) hJ
        refine pSC_or_f rfl (hfirst _ ?_)
        refine pSC_or_f rfl (hsecond _ ?_)
        try simp (disch := omega) only [pV_some, pE_some, pU_some, st_add, st_sub, st_mul, st_quo, st_rem, st_eql, st_neq, st_lss, st_leq, st_gtr, st_geq, st_seq, st_sneq, st_beq, st_bneq, st_not, st_neg, st_lenS, st_capS, st_lenT, st_fldA, st_conv, st_pick, st_ext0, st_ext1, st_ext2, st_ext3, st_nilS, st_nilP, st_nilF, st_nilE, st_nilN, st_none, st_some, st_true, st_false, nilC, add_lit, Nat.zero_add, Nat.add_zero, nth0, nth1, nth2, nth3, nth4, nth5, nth6, List.getElem?_cons_succ, List.getElem?_cons_zero, cond_true, cond_false, pSC_orp, pSC_andp, wrap_i64, Bool.not_true, Bool.not_false]
        refine app_frs hot (h := hm ++ (hl ++ hq5)) (hs15.re (fun _ => by simp only [cnt_nil, cnt_cons, cnt_append]; omega)) rm15 (by omega) (fun v16 hv16 w16 ho16 hs16 => ?_)
        try simp (disch := omega) only [pV_some, pE_some, pU_some, st_add, st_sub, st_mul, st_quo, st_rem, st_eql, st_neq, st_lss, st_leq, st_gtr, st_geq, st_seq, st_sneq, st_beq, st_bneq, st_not, st_neg, st_lenS, st_capS, st_lenT, st_fldA, st_conv, st_pick, st_ext0, st_ext1, st_ext2, st_ext3, st_nilS, st_nilP, st_nilF, st_nilE, st_nilN, st_none, st_some, st_true, st_false, nilC, add_lit, Nat.zero_add, Nat.add_zero, nth0, nth1, nth2, nth3, nth4, nth5, nth6, List.getElem?_cons_succ, List.getElem?_cons_zero, cond_true, cond_false, pSC_orp, pSC_andp, wrap_i64, Bool.not_true, Bool.not_false, ho16.len]
        refine pIf_of (fun h => by simp at h; omega) (fun _ => ?_)
        refine hgo4 _ _ (by omega) ⟨v16, hv16, hq5, done ++ upTo tn Lw, above tn Lw, tn, by simp, by rw [List.append_assoc, ← hsp]; exact hsplit, ho16, hw5, hs16.re (fun _ => by simp only [cnt_nil, cnt_cons, cnt_append]; omega), fun h => ?_⟩
        have : tn = 1099511627776 := htn3 (by omega)
        subst this
        exact (upTo_all (fun e he => by have := hrw e he; omega)).2
      refine F12_pc (nextL_spec hww (r := hl ++ hv) (hs13.re (fun _ => by simp only [cnt_nil, cnt_cons, cnt_append]; omega)) (fun hnil w14 hs14 => ?_) (fun e L' hcons w14 hs14 => ?_))
      · have := rest 0 false w14 (hs14.re (fun _ => by simp only [cnt_nil, cnt_cons, cnt_append]; omega)) (by rw [hnil] at hLd; simp at hLd; simp; omega) (fun e L' h => by rw [hnil] at h; cases h)
        simp only [st_ext0, st_ext1, pV_some, nth0, nth1]
        exact this
      · have := rest e.1 true w14 (hs14.re (fun _ => by simp only [cnt_nil, cnt_cons, cnt_append]; omega)) (by rw [hcons] at hLd; simp at hLd; simp; omega) (fun e' L'' h => by rw [hcons] at h; cases h; rfl)
        simp only [st_ext0, st_ext1, pV_some, nth0, nth1]
        exact this
  · have h3 : i3 = steps.length + 1 := by simp at hlt4; omega
    have hnil := hend h3
    rw [hnil, List.append_nil] at hsplit
    refine F13_pc (sameF_spec (hot.reads (h := hl ++ hq) (hs12.re (fun _ => by simp only [cnt_nil, cnt_cons, cnt_append]; omega))) (hol.reads (h := hv ++ hq) hs12) (by omega) (fun w13 hs13 => ?_))
    rw [← hsplit]
    simp only [decide_true]
    exact k w13 ((hs12.call hs13).re (fun _ => by simp only [cnt_nil, cnt_cons, cnt_append]; omega))
end Go.Proofs.Ytbbjljhbiaeadaa
