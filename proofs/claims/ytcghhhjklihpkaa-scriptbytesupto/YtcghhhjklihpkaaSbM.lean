/- script: the law ScriptBytes is true of all that reads as inputs and bytes. -/
import Derived.Test.YtcghhhjklihpkaaSbL
set_option linter.unusedSimpArgs false
set_option linter.unusedVariables false
namespace Go.Proofs.Ytcghhhjklihpkaa
open Go.Bk Go.RowKit

/-- 'over' writes over bytes of one's own, and goes on behind them. -/
theorem over_spec {w : World} {v : Value} {xs : List Nat} {hp : HP} (ho : OwnB v xs hp) (hs : St w (fun i => i ∈ keys hp) hp w) (hl : xs.length ≤ 35184372088832) {K : Value → World → Prop}
    (k : ∀ w', Tr w (fun i => i ∈ keys hp) w' → K (.int .i64 ((xs.length : Int) + 64)) w') : F23 v w K := by
  unfold F23
  generalize hM : (fun i => i ∈ keys hp) = M at hs k
  refine pLoop_up (I := fun i vs w' => ∃ (ys : List Nat) (h : HP), vs = [.int .i64 (i : Nat)] ∧ ys.length = xs.length ∧ OwnB v ys h ∧ St w M h w') xs.length 0 (Nat.zero_le _) ⟨xs, hp, rfl, rfl, ho, hs⟩ ?_
  rintro i vs w1 hi ⟨ys, h, rfl, hyl, ho1, hs1⟩ go hgo
  try simp (disch := omega) only [pV_some, pE_some, pU_some, st_add, st_sub, st_mul, st_quo, st_rem, st_eql, st_neq, st_lss, st_leq, st_gtr, st_geq, st_seq, st_sneq, st_beq, st_bneq, st_not, st_neg, st_lenS, st_capS, st_lenT, st_fldA, st_conv, st_pick, st_ext0, st_ext1, st_ext2, st_ext3, st_nilS, st_nilP, st_nilF, st_nilE, st_nilN, st_none, st_some, st_true, st_false, nilC, add_lit, Nat.zero_add, Nat.add_zero, nth0, nth1, nth2, nth3, nth4, nth5, nth6, List.getElem?_cons_succ, List.getElem?_cons_zero, cond_true, cond_false, pSC_orp, pSC_andp, wrap_i64, Bool.not_true, Bool.not_false, ho1.len, hyl]
  refine pIf_of (fun hlt => ?_) (fun hlt => ?_)
  · have hlt : i < xs.length := by simpa using hlt
    obtain ⟨ad, i1, _, hput⟩ := own_setB ho1 (r := []) (by simpa using hs1) (i := i) (by omega) (x := i) rfl
    try simp (disch := omega) only [pV_some, pE_some, pU_some, st_add, st_sub, st_mul, st_quo, st_rem, st_eql, st_neq, st_lss, st_leq, st_gtr, st_geq, st_seq, st_sneq, st_beq, st_bneq, st_not, st_neg, st_lenS, st_capS, st_lenT, st_fldA, st_conv, st_pick, st_ext0, st_ext1, st_ext2, st_ext3, st_nilS, st_nilP, st_nilF, st_nilE, st_nilN, st_none, st_some, st_true, st_false, nilC, add_lit, Nat.zero_add, Nat.add_zero, nth0, nth1, nth2, nth3, nth4, nth5, nth6, List.getElem?_cons_succ, List.getElem?_cons_zero, cond_true, cond_false, pSC_orp, pSC_andp, wrap_i64, Bool.not_true, Bool.not_false, i1]
    refine hput 9 w1 _ (by simpa using hs1) (fun kk' w' ho' hs' => ?_)
    exact hgo _ _ hlt ⟨_, kk', by simp, by simpa using hyl, ho', by simpa using hs'⟩
  · refine pLoop_up (I := fun i vs w' => ∃ (v' : Value) (ys : List Nat) (h : HP), vs = [v', .int .i64 (i : Nat)] ∧ ys.length = xs.length + i ∧ OwnB v' ys h ∧ St w M h w') 64 0 (by omega) ⟨v, ys, h, rfl, by omega, ho1, hs1⟩ ?_
    rintro j vs w2 hj ⟨v2, zs, h2, rfl, hzl, ho2, hs2⟩ go2 hgo2
    try simp (disch := omega) only [pV_some, pE_some, pU_some, st_add, st_sub, st_mul, st_quo, st_rem, st_eql, st_neq, st_lss, st_leq, st_gtr, st_geq, st_seq, st_sneq, st_beq, st_bneq, st_not, st_neg, st_lenS, st_capS, st_lenT, st_fldA, st_conv, st_pick, st_ext0, st_ext1, st_ext2, st_ext3, st_nilS, st_nilP, st_nilF, st_nilE, st_nilN, st_none, st_some, st_true, st_false, nilC, add_lit, Nat.zero_add, Nat.add_zero, nth0, nth1, nth2, nth3, nth4, nth5, nth6, List.getElem?_cons_succ, List.getElem?_cons_zero, cond_true, cond_false, pSC_orp, pSC_andp, wrap_i64, Bool.not_true, Bool.not_false]
    refine pIf_of (fun hlt2 => ?_) (fun hlt2 => ?_)
    · have hlt2 : j < 64 := by simp at hlt2; omega
      refine app_bys [8] rfl ho2 (h := []) (by simpa using hs2) (by simp; omega) (fun v' hp' w' ho' hs' => ?_)
      exact hgo2 _ _ hlt2 ⟨v', _, hp', by simp, by simp; omega, ho', by simpa using hs'⟩
    · obtain rfl : j = 64 := by simp at hlt2; omega
      have e : ((zs.length : Nat) : Int) = (xs.length : Int) + 64 := by omega
      try simp (disch := omega) only [pV_some, pE_some, pU_some, st_add, st_sub, st_mul, st_quo, st_rem, st_eql, st_neq, st_lss, st_leq, st_gtr, st_geq, st_seq, st_sneq, st_beq, st_bneq, st_not, st_neg, st_lenS, st_capS, st_lenT, st_fldA, st_conv, st_pick, st_ext0, st_ext1, st_ext2, st_ext3, st_nilS, st_nilP, st_nilF, st_nilE, st_nilN, st_none, st_some, st_true, st_false, nilC, add_lit, Nat.zero_add, Nat.add_zero, nth0, nth1, nth2, nth3, nth4, nth5, nth6, List.getElem?_cons_succ, List.getElem?_cons_zero, cond_true, cond_false, pSC_orp, pSC_andp, wrap_i64, Bool.not_true, Bool.not_false, ho2.len, e]
      exact k w2 hs2.tr

def encB (l : List In) : List Nat := if EncBad l then [] else sealed 3 (encL l)
def encE (l : List In) : Int := if EncBad l then 1 else 0
theorem encB_len (l : List In) : (encB l).length ≤ 4194316 := by
  unfold encB
  split
  · simp
  · rename_i h
    rw [sealed_len]
    have : ¬ 4194304 < (encL l).length := fun h' => h (.inr h')
    omega
theorem encode2 {w0 : World} {v : Value} {ps : List (In × Value)} (hp : InsR w0 v ps) (hB : ∀ p ∈ ps, p.1.d.length ≤ 1048576) (hn : ps.length ≤ 134217728) {K : Value → World → Prop}
    (k : ∀ v' h w', OwnB v' (encB (insOf ps)) h → St w0 no h w' → K (.tuple #[v', .int .i64 (encE (insOf ps))]) w') : F21 v w0 K := by
  refine encode_spec hp hB hn (fun hb w1 hs1 => ?_) (fun hb v' h w' ho hs => ?_)
  · rw [encB, encE, if_pos hb, if_pos hb] at k
    exact k _ [] w1 (ownS_nil _ _) hs1
  · rw [encB, encE, if_neg hb, if_neg hb] at k
    exact k v' h w' ho hs
theorem refencode2 {w0 : World} {v : Value} {ps : List (In × Value)} (hp : InsR w0 v ps) (hB : ∀ p ∈ ps, p.1.d.length ≤ 1048576) {K : Value → World → Prop}
    (k : ∀ v' h w', OwnB v' (encB (insOf ps)) h → St w0 no h w' → K (.tuple #[v', .int .i64 (encE (insOf ps))]) w') : F22 v w0 K := by
  refine refencode_spec hp hB (fun hb w1 hs1 => ?_) (fun hb v' h w' ho hs => ?_)
  · rw [encB, encE, if_pos hb, if_pos hb] at k
    exact k _ [] w1 (ownS_nil _ _) hs1
  · rw [encB, encE, if_neg hb, if_neg hb] at k
    exact k v' h w' ho hs
theorem sameB_of {w : World} {v u : Value} {l : List Nat} (hv : RdB w v l) (hu : RdB w u l) (hl : l.length ≤ 70368744177664) {K : Value → World → Prop}
    (k : ∀ w', St w no [] w' → K (.bool true) w') : pCall Try.prog 17 [v, u] w K :=
  F17_pc (sameB_spec hv hu hl (fun w' hs' => by
    have := k w' hs'
    rw [show decide (l = l) = true by simp]
    exact this))

theorem encodes_spec {w0 : World} {v : Value} {ps : List (In × Value)} (hp : InsR w0 v ps) (hn : ps.length ≤ 1048576) (hB : ∀ p ∈ ps, p.1.d.length ≤ 1048576) {K : Value → World → Prop}
    (k : ∀ w', Tr w0 no w' → K (.bool true) w') : F14 v w0 K := by
  unfold F14
  have fp : Fits ps := ⟨by omega, fun p h => Nat.le_trans (hB p h) (by omega)⟩
  have hbl := encB_len (insOf ps)
  refine F5_pc (handed_spec hp fp (fun a x za oa ox ia w1 hza hoa hox hxi hai hs1 => ?_))
  have eA : insOf (za.map cutP) = insOf ps := by unfold insOf; rw [← hza]; simp only [List.map_map]; rfl
  have lA : (za.map cutP).length = ps.length := by simpa [insOf] using congrArg List.length eA
  have hBA : ∀ p ∈ za.map cutP, p.1.d.length ≤ 1048576 := by
    intro p h
    have : p.1 ∈ insOf ps := by rw [← eA]; exact List.mem_map.2 ⟨p, h, rfl⟩
    obtain ⟨q, hq, he⟩ := List.mem_map.1 this
    rw [← he]; exact hB q hq
  have hA : InsR w1 a (za.map cutP) := ⟨hoa.own.reads (h := ia ++ ox) (hs1.re (fun _ => by simp only [cnt_nil, cnt_cons, cnt_append]; omega)), hai.reads (r := oa ++ ox) (hs1.re (fun _ => by simp only [cnt_nil, cnt_cons, cnt_append]; omega))⟩
  have hX : InsR w1 x (za.map wideP ++ marks) := ⟨hox.reads (h := ia ++ oa) (hs1.re (fun _ => by simp only [cnt_nil, cnt_cons, cnt_append]; omega)), hxi.reads (r := oa ++ ox) (hs1.re (fun _ => by simp only [cnt_nil, cnt_cons, cnt_append]; omega))⟩
  obtain ⟨va, hva, hva2⟩ := slM hoa
  have hVA := hva2 w0 w1 no ox ia hai (hs1.re (fun _ => by simp only [cnt_nil, cnt_cons, cnt_append]; omega))
  rw [lA] at hva
  have eX : (za.map wideP ++ marks).map (·.1) = (ps.map (·.1)).map wide ++ marks.map (·.1) := by rw [List.map_append, ← hza]; congr 1; simp only [List.map_map]; rfl
  have hone := hp.gr hs1.tr
  try simp (disch := omega) only [pV_some, pE_some, pU_some, st_add, st_sub, st_mul, st_quo, st_rem, st_eql, st_neq, st_lss, st_leq, st_gtr, st_geq, st_seq, st_sneq, st_beq, st_bneq, st_not, st_neg, st_lenS, st_capS, st_lenT, st_fldA, st_conv, st_pick, st_ext0, st_ext1, st_ext2, st_ext3, st_nilS, st_nilP, st_nilF, st_nilE, st_nilN, st_none, st_some, st_true, st_false, nilC, add_lit, Nat.zero_add, Nat.add_zero, nth0, nth1, nth2, nth3, nth4, nth5, nth6, List.getElem?_cons_succ, List.getElem?_cons_zero, cond_true, cond_false, pSC_orp, pSC_andp, wrap_i64, Bool.not_true, Bool.not_false]
  refine F21_pc (encode2 hA hBA (by omega) (fun c hc w2 oc s2 => ?_))
  rw [eA] at oc
  try simp (disch := omega) only [pV_some, pE_some, pU_some, st_add, st_sub, st_mul, st_quo, st_rem, st_eql, st_neq, st_lss, st_leq, st_gtr, st_geq, st_seq, st_sneq, st_beq, st_bneq, st_not, st_neg, st_lenS, st_capS, st_lenT, st_fldA, st_conv, st_pick, st_ext0, st_ext1, st_ext2, st_ext3, st_nilS, st_nilP, st_nilF, st_nilE, st_nilN, st_none, st_some, st_true, st_false, nilC, add_lit, Nat.zero_add, Nat.add_zero, nth0, nth1, nth2, nth3, nth4, nth5, nth6, List.getElem?_cons_succ, List.getElem?_cons_zero, cond_true, cond_false, pSC_orp, pSC_andp, wrap_i64, Bool.not_true, Bool.not_false]
  refine F21_pc (encode2 (hA.gr s2.tr) hBA (by omega) (fun g hg w3 og s3' => ?_))
  rw [eA] at og
  have s3 := s2.call s3'
  try simp (disch := omega) only [pV_some, pE_some, pU_some, st_add, st_sub, st_mul, st_quo, st_rem, st_eql, st_neq, st_lss, st_leq, st_gtr, st_geq, st_seq, st_sneq, st_beq, st_bneq, st_not, st_neg, st_lenS, st_capS, st_lenT, st_fldA, st_conv, st_pick, st_ext0, st_ext1, st_ext2, st_ext3, st_nilS, st_nilP, st_nilF, st_nilE, st_nilN, st_none, st_some, st_true, st_false, nilC, add_lit, Nat.zero_add, Nat.add_zero, nth0, nth1, nth2, nth3, nth4, nth5, nth6, List.getElem?_cons_succ, List.getElem?_cons_zero, cond_true, cond_false, pSC_orp, pSC_andp, wrap_i64, Bool.not_true, Bool.not_false]
  refine F22_pc (refencode2 (hone.gr s3.tr) hB (fun d hd w4 od s4' => ?_))
  have s4 := s3.call s4'
  try simp (disch := omega) only [pV_some, pE_some, pU_some, st_add, st_sub, st_mul, st_quo, st_rem, st_eql, st_neq, st_lss, st_leq, st_gtr, st_geq, st_seq, st_sneq, st_beq, st_bneq, st_not, st_neg, st_lenS, st_capS, st_lenT, st_fldA, st_conv, st_pick, st_ext0, st_ext1, st_ext2, st_ext3, st_nilS, st_nilP, st_nilF, st_nilE, st_nilN, st_none, st_some, st_true, st_false, nilC, add_lit, Nat.zero_add, Nat.add_zero, nth0, nth1, nth2, nth3, nth4, nth5, nth6, List.getElem?_cons_succ, List.getElem?_cons_zero, cond_true, cond_false, pSC_orp, pSC_andp, wrap_i64, Bool.not_true, Bool.not_false]
  refine sameB_of (oc.reads (h := hd ++ hg) (s4.re (fun _ => by simp only [cnt_nil, cnt_cons, cnt_append]; omega))) (od.reads (h := hc ++ hg) (s4.re (fun _ => by simp only [cnt_nil, cnt_cons, cnt_append]; omega))) (by omega) (fun w5 s5' => ?_)
  have s5 := s4.call s5'
  try simp (disch := omega) only [pV_some, pE_some, pU_some, st_add, st_sub, st_mul, st_quo, st_rem, st_eql, st_neq, st_lss, st_leq, st_gtr, st_geq, st_seq, st_sneq, st_beq, st_bneq, st_not, st_neg, st_lenS, st_capS, st_lenT, st_fldA, st_conv, st_pick, st_ext0, st_ext1, st_ext2, st_ext3, st_nilS, st_nilP, st_nilF, st_nilE, st_nilN, st_none, st_some, st_true, st_false, nilC, add_lit, Nat.zero_add, Nat.add_zero, nth0, nth1, nth2, nth3, nth4, nth5, nth6, List.getElem?_cons_succ, List.getElem?_cons_zero, cond_true, cond_false, pSC_orp, pSC_andp, wrap_i64, Bool.not_true, Bool.not_false]
  refine pSC_or_f rfl (sameB_of (og.reads (h := hd ++ hc) (s5.re (fun _ => by simp only [cnt_nil, cnt_cons, cnt_append]; omega))) (od.reads (h := hc ++ hg) (s5.re (fun _ => by simp only [cnt_nil, cnt_cons, cnt_append]; omega))) (by omega) (fun w6 s6' => ?_))
  have s6 := s5.call s6'
  try simp (disch := omega) only [pV_some, pE_some, pU_some, st_add, st_sub, st_mul, st_quo, st_rem, st_eql, st_neq, st_lss, st_leq, st_gtr, st_geq, st_seq, st_sneq, st_beq, st_bneq, st_not, st_neg, st_lenS, st_capS, st_lenT, st_fldA, st_conv, st_pick, st_ext0, st_ext1, st_ext2, st_ext3, st_nilS, st_nilP, st_nilF, st_nilE, st_nilN, st_none, st_some, st_true, st_false, nilC, add_lit, Nat.zero_add, Nat.add_zero, nth0, nth1, nth2, nth3, nth4, nth5, nth6, List.getElem?_cons_succ, List.getElem?_cons_zero, cond_true, cond_false, pSC_orp, pSC_andp, wrap_i64, Bool.not_true, Bool.not_false, eA, eq_self, decide_true, Bool.or_false, Bool.or_self]
  refine pSC_or_f rfl (F12_pc (left_spec (hA.gr s6.tr) (hX.gr s6.tr) (hone.gr s6.tr) fp eA eX hva (hVA.gr s6.tr) (fun w7 s7' => ?_)))
  have s7 := s6.call s7'
  try simp (disch := omega) only [pV_some, pE_some, pU_some, st_add, st_sub, st_mul, st_quo, st_rem, st_eql, st_neq, st_lss, st_leq, st_gtr, st_geq, st_seq, st_sneq, st_beq, st_bneq, st_not, st_neg, st_lenS, st_capS, st_lenT, st_fldA, st_conv, st_pick, st_ext0, st_ext1, st_ext2, st_ext3, st_nilS, st_nilP, st_nilF, st_nilE, st_nilN, st_none, st_some, st_true, st_false, nilC, add_lit, Nat.zero_add, Nat.add_zero, nth0, nth1, nth2, nth3, nth4, nth5, nth6, List.getElem?_cons_succ, List.getElem?_cons_zero, cond_true, cond_false, pSC_orp, pSC_andp, wrap_i64, Bool.not_true, Bool.not_false]
  have s7a : St w1 no (hc ++ (hd ++ hg)) w7 := s7.re (fun _ => by simp only [cnt_nil, cnt_cons, cnt_append]; omega)
  refine F23_pc (over_spec oc s7a.self (by omega) (fun w8 ht8 => ?_))
  have s8 : St w1 no (hd ++ hg) w8 := s7a.gone ht8
  try simp (disch := omega) only [pV_some, pE_some, pU_some, st_add, st_sub, st_mul, st_quo, st_rem, st_eql, st_neq, st_lss, st_leq, st_gtr, st_geq, st_seq, st_sneq, st_beq, st_bneq, st_not, st_neg, st_lenS, st_capS, st_lenT, st_fldA, st_conv, st_pick, st_ext0, st_ext1, st_ext2, st_ext3, st_nilS, st_nilP, st_nilF, st_nilE, st_nilN, st_none, st_some, st_true, st_false, nilC, add_lit, Nat.zero_add, Nat.add_zero, nth0, nth1, nth2, nth3, nth4, nth5, nth6, List.getElem?_cons_succ, List.getElem?_cons_zero, cond_true, cond_false, pSC_orp, pSC_andp, wrap_i64, Bool.not_true, Bool.not_false, od.len, eq_self, decide_true]
  refine pSC_or_f rfl (sameB_of (og.reads (h := hd) (s8.re (fun _ => by simp only [cnt_nil, cnt_cons, cnt_append]; omega))) (od.reads (h := hg) (s8.re (fun _ => by simp only [cnt_nil, cnt_cons, cnt_append]; omega))) (by omega) (fun w9 s9' => ?_))
  have s9 := s8.call s9'
  try simp (disch := omega) only [pV_some, pE_some, pU_some, st_add, st_sub, st_mul, st_quo, st_rem, st_eql, st_neq, st_lss, st_leq, st_gtr, st_geq, st_seq, st_sneq, st_beq, st_bneq, st_not, st_neg, st_lenS, st_capS, st_lenT, st_fldA, st_conv, st_pick, st_ext0, st_ext1, st_ext2, st_ext3, st_nilS, st_nilP, st_nilF, st_nilE, st_nilN, st_none, st_some, st_true, st_false, nilC, add_lit, Nat.zero_add, Nat.add_zero, nth0, nth1, nth2, nth3, nth4, nth5, nth6, List.getElem?_cons_succ, List.getElem?_cons_zero, cond_true, cond_false, pSC_orp, pSC_andp, wrap_i64, Bool.not_true, Bool.not_false]
  refine pSC_or_f rfl (F12_pc (left_spec (hA.gr s9.tr) (hX.gr s9.tr) (hone.gr s9.tr) fp eA eX hva (hVA.gr s9.tr) (fun w10 s10' => ?_)))
  have s10 := s9.call s10'
  have t10 := hs1.call s10
  try simp (disch := omega) only [pV_some, pE_some, pU_some, st_add, st_sub, st_mul, st_quo, st_rem, st_eql, st_neq, st_lss, st_leq, st_gtr, st_geq, st_seq, st_sneq, st_beq, st_bneq, st_not, st_neg, st_lenS, st_capS, st_lenT, st_fldA, st_conv, st_pick, st_ext0, st_ext1, st_ext2, st_ext3, st_nilS, st_nilP, st_nilF, st_nilE, st_nilN, st_none, st_some, st_true, st_false, nilC, add_lit, Nat.zero_add, Nat.add_zero, nth0, nth1, nth2, nth3, nth4, nth5, nth6, List.getElem?_cons_succ, List.getElem?_cons_zero, cond_true, cond_false, pSC_orp, pSC_andp, wrap_i64, Bool.not_true, Bool.not_false]
  have t10' : St w0 no (oa ++ (ia ++ ox)) w10 := t10.re (fun _ => by simp only [cnt_nil, cnt_cons, cnt_append]; omega)
  refine F13_pc (turned_gen (B := 1048576) hoa.own hai t10' (by omega) (by omega) hBA (fun qs o' inn' w11 ho11 hi11 hl11 hB11 hs11 => ?_))
  have hQ : InsR w11 a qs := ⟨ho11.reads (h := inn' ++ ox) hs11, hi11.reads (r := o' ++ ox) (hs11.re (fun _ => by simp only [cnt_nil, cnt_cons, cnt_append]; omega))⟩
  have hbq := encB_len (insOf qs)
  refine F22_pc (refencode2 hQ hB11 (fun q hq w12 oq s12 => ?_))
  try simp (disch := omega) only [pV_some, pE_some, pU_some, st_add, st_sub, st_mul, st_quo, st_rem, st_eql, st_neq, st_lss, st_leq, st_gtr, st_geq, st_seq, st_sneq, st_beq, st_bneq, st_not, st_neg, st_lenS, st_capS, st_lenT, st_fldA, st_conv, st_pick, st_ext0, st_ext1, st_ext2, st_ext3, st_nilS, st_nilP, st_nilF, st_nilE, st_nilN, st_none, st_some, st_true, st_false, nilC, add_lit, Nat.zero_add, Nat.add_zero, nth0, nth1, nth2, nth3, nth4, nth5, nth6, List.getElem?_cons_succ, List.getElem?_cons_zero, cond_true, cond_false, pSC_orp, pSC_andp, wrap_i64, Bool.not_true, Bool.not_false]
  refine F21_pc (encode2 (hQ.gr s12.tr) hB11 hl11 (fun p hpp w13 op s13' => ?_))
  have s13 := s12.call s13'
  try simp (disch := omega) only [pV_some, pE_some, pU_some, st_add, st_sub, st_mul, st_quo, st_rem, st_eql, st_neq, st_lss, st_leq, st_gtr, st_geq, st_seq, st_sneq, st_beq, st_bneq, st_not, st_neg, st_lenS, st_capS, st_lenT, st_fldA, st_conv, st_pick, st_ext0, st_ext1, st_ext2, st_ext3, st_nilS, st_nilP, st_nilF, st_nilE, st_nilN, st_none, st_some, st_true, st_false, nilC, add_lit, Nat.zero_add, Nat.add_zero, nth0, nth1, nth2, nth3, nth4, nth5, nth6, List.getElem?_cons_succ, List.getElem?_cons_zero, cond_true, cond_false, pSC_orp, pSC_andp, wrap_i64, Bool.not_true, Bool.not_false]
  refine sameB_of (op.reads (h := hq) s13) (oq.reads (h := hpp) (s13.re (fun _ => by simp only [cnt_nil, cnt_cons, cnt_append]; omega))) (by omega) (fun w14 s14' => ?_)
  have s14 := s13.call s14'
  try simp (disch := omega) only [pV_some, pE_some, pU_some, st_add, st_sub, st_mul, st_quo, st_rem, st_eql, st_neq, st_lss, st_leq, st_gtr, st_geq, st_seq, st_sneq, st_beq, st_bneq, st_not, st_neg, st_lenS, st_capS, st_lenT, st_fldA, st_conv, st_pick, st_ext0, st_ext1, st_ext2, st_ext3, st_nilS, st_nilP, st_nilF, st_nilE, st_nilN, st_none, st_some, st_true, st_false, nilC, add_lit, Nat.zero_add, Nat.add_zero, nth0, nth1, nth2, nth3, nth4, nth5, nth6, List.getElem?_cons_succ, List.getElem?_cons_zero, cond_true, cond_false, pSC_orp, pSC_andp, wrap_i64, Bool.not_true, Bool.not_false, eq_self, decide_true, Bool.and_self]
  exact k w14 (hs11.call s14).tr

/-- What Decode tells is of no more than the bytes have. -/
theorem Dec_fits {l : List Nat} (hb : ∀ x ∈ l, x < 256) : (Dec l).2.length ≤ 65536 ∧ ∀ x ∈ (Dec l).2, x.d.length ≤ 4194304 := by
  unfold Dec
  split
  · simp
  · rename_i hu
    have hu : Un 3 l = 0 := by simpa using hu
    split
    · simp
    · match h : strict (mid l) with
      | none => simp
      | some x =>
        obtain ⟨e, _, hl⟩ := strict_back (mid_lt hb) h
        refine ⟨hl, fun y hy => ?_⟩
        have hy : y ∈ x := hy
        have h1 := encs_mem hy
        have h2 := congrArg List.length e
        rw [encL, List.length_append, n4_len] at h2
        have := (Un_len hu).1
        omega
theorem OwnL.fits {v : Value} {l : List In} {hp : HP} (h : OwnL v l hp) (h1 : l.length ≤ 65536) (h2 : ∀ x ∈ l, x.d.length ≤ 4194304) : ∃ ps, insOf ps = l ∧ OwnIns v ps hp ∧ Fits ps := by
  obtain ⟨ps, rfl, ho⟩ := h
  refine ⟨ps, rfl, ho, by simp [insOf] at h1; omega, fun p hp => ?_⟩
  have := h2 p.1 (List.mem_map.2 ⟨p, hp, rfl⟩)
  omega

theorem bytes_spec {w0 : World} {v u : Value} {ps : List (In × Value)} {l : List Nat} (hp : InsR w0 v ps) (hn : ps.length ≤ 1048576) (hB : ∀ p ∈ ps, p.1.d.length ≤ 1048576) (hu : RdB w0 u l) (hl : l.length ≤ 1048576) (hb : ∀ c ∈ l, c < 256) {K : Value → World → Prop}
    (k : ∀ w', Tr w0 no w' → K (.bool true) w') : F4 v u w0 K := by
  unfold F4
  refine F14_pc (encodes_spec hp hn hB (fun w1 ht1 => ?_))
  have hu1 := hu.gr ht1
  try simp (disch := omega) only [pV_some, pE_some, pU_some, st_add, st_sub, st_mul, st_quo, st_rem, st_eql, st_neq, st_lss, st_leq, st_gtr, st_geq, st_seq, st_sneq, st_beq, st_bneq, st_not, st_neg, st_lenS, st_capS, st_lenT, st_fldA, st_conv, st_pick, st_ext0, st_ext1, st_ext2, st_ext3, st_nilS, st_nilP, st_nilF, st_nilE, st_nilN, st_none, st_some, st_true, st_false, nilC, add_lit, Nat.zero_add, Nat.add_zero, nth0, nth1, nth2, nth3, nth4, nth5, nth6, List.getElem?_cons_succ, List.getElem?_cons_zero, cond_true, cond_false, pSC_orp, pSC_andp, wrap_i64, Bool.not_true, Bool.not_false]
  refine append_bys (xs := []) (hp := []) (h := []) (ownS_nil _ _) (St.nil w1 no) hu1 (by simp; omega) (fun v2 hp2 w2 ho2 hs2 => ?_)
  rw [List.nil_append] at ho2
  refine pLoop_up (I := fun i vs w' => ∃ (v' : Value) (h : HP), vs = [v', .int .i64 (i : Nat)] ∧ OwnB v' (l ++ List.replicate i 90) h ∧ St w1 no h w') 64 0 (by omega) ⟨v2, hp2, rfl, by simpa using ho2, by simpa using hs2⟩ ?_
  rintro i vs w3 hi ⟨v3, h3, rfl, ho3, hs3⟩ go hgo
  try simp (disch := omega) only [pV_some, pE_some, pU_some, st_add, st_sub, st_mul, st_quo, st_rem, st_eql, st_neq, st_lss, st_leq, st_gtr, st_geq, st_seq, st_sneq, st_beq, st_bneq, st_not, st_neg, st_lenS, st_capS, st_lenT, st_fldA, st_conv, st_pick, st_ext0, st_ext1, st_ext2, st_ext3, st_nilS, st_nilP, st_nilF, st_nilE, st_nilN, st_none, st_some, st_true, st_false, nilC, add_lit, Nat.zero_add, Nat.add_zero, nth0, nth1, nth2, nth3, nth4, nth5, nth6, List.getElem?_cons_succ, List.getElem?_cons_zero, cond_true, cond_false, pSC_orp, pSC_andp, wrap_i64, Bool.not_true, Bool.not_false]
  refine pIf_of (fun hlt => ?_) (fun hlt => ?_)
  · have hlt : i < 64 := by simp at hlt; omega
    refine app_bys [90] rfl ho3 (h := []) (by simpa using hs3) (by simp; omega) (fun v' hp' w' ho' hs' => ?_)
    exact hgo _ _ hlt ⟨v', hp', by simp, by rw [rep_snoc, ← List.append_assoc]; exact ho', by simpa using hs'⟩
  obtain rfl : i = 64 := by simp at hlt; omega
  have cutm : ∀ (ys zs : List Nat) (h : HP), ys.length = l.length → OwnB v3 (ys ++ zs) h → ∃ vm, slV 1 v3 none (some (.int .i64 l.length)) none = some vm ∧ OwnB vm ys h := by
    intro ys zs h hy ho
    have ho' : OwnS 5 1 v3 (ys ++ zs).length (bys ys ++ bys zs) h := by rw [← bys_append]; exact ho
    have := OwnS.cut ho' (m := ys.length) (by simp) (by rw [bys_len]; simp) (x := l.length) (by omega)
    exact this
  obtain ⟨vm, hcut, hom⟩ := cutm l _ h3 rfl ho3
  obtain ⟨df1, df2⟩ := Dec_fits hb
  try simp (disch := omega) only [pV_some, pE_some, pU_some, st_add, st_sub, st_mul, st_quo, st_rem, st_eql, st_neq, st_lss, st_leq, st_gtr, st_geq, st_seq, st_sneq, st_beq, st_bneq, st_not, st_neg, st_lenS, st_capS, st_lenT, st_fldA, st_conv, st_pick, st_ext0, st_ext1, st_ext2, st_ext3, st_nilS, st_nilP, st_nilF, st_nilE, st_nilN, st_none, st_some, st_true, st_false, nilC, add_lit, Nat.zero_add, Nat.add_zero, nth0, nth1, nth2, nth3, nth4, nth5, nth6, List.getElem?_cons_succ, List.getElem?_cons_zero, cond_true, cond_false, pSC_orp, pSC_andp, wrap_i64, Bool.not_true, Bool.not_false, hu.len, hcut]
  refine F15_pc (decode_spec (hom.reads (h := []) (hs3.re (fun _ => by simp only [cnt_nil, cnt_cons, cnt_append]; omega))) (by omega) hb (fun x hx w4 ox hs4' => ?_))
  have hs4 := hs3.call hs4'
  try simp (disch := omega) only [pV_some, pE_some, pU_some, st_add, st_sub, st_mul, st_quo, st_rem, st_eql, st_neq, st_lss, st_leq, st_gtr, st_geq, st_seq, st_sneq, st_beq, st_bneq, st_not, st_neg, st_lenS, st_capS, st_lenT, st_fldA, st_conv, st_pick, st_ext0, st_ext1, st_ext2, st_ext3, st_nilS, st_nilP, st_nilF, st_nilE, st_nilN, st_none, st_some, st_true, st_false, nilC, add_lit, Nat.zero_add, Nat.add_zero, nth0, nth1, nth2, nth3, nth4, nth5, nth6, List.getElem?_cons_succ, List.getElem?_cons_zero, cond_true, cond_false, pSC_orp, pSC_andp, wrap_i64, Bool.not_true, Bool.not_false]
  refine F15_pc (decode_spec (hom.reads (h := hx) (hs4.re (fun _ => by simp only [cnt_nil, cnt_cons, cnt_append]; omega))) (by omega) hb (fun y hy w5 oy hs5' => ?_))
  have hs5 := hs4.call hs5'
  try simp (disch := omega) only [pV_some, pE_some, pU_some, st_add, st_sub, st_mul, st_quo, st_rem, st_eql, st_neq, st_lss, st_leq, st_gtr, st_geq, st_seq, st_sneq, st_beq, st_bneq, st_not, st_neg, st_lenS, st_capS, st_lenT, st_fldA, st_conv, st_pick, st_ext0, st_ext1, st_ext2, st_ext3, st_nilS, st_nilP, st_nilF, st_nilE, st_nilN, st_none, st_some, st_true, st_false, nilC, add_lit, Nat.zero_add, Nat.add_zero, nth0, nth1, nth2, nth3, nth4, nth5, nth6, List.getElem?_cons_succ, List.getElem?_cons_zero, cond_true, cond_false, pSC_orp, pSC_andp, wrap_i64, Bool.not_true, Bool.not_false]
  refine F16_pc (refdecode_spec (hu1.gr hs5.tr) (by omega) hb (fun z hz w6 oz hs6' => ?_))
  have hs6 := hs5.call hs6'
  obtain ⟨px, ex, oxx, fx⟩ := ox.fits df1 df2
  obtain ⟨py, ey, oyy, fy⟩ := oy.fits df1 df2
  obtain ⟨pz, ez, ozz, fz⟩ := oz.fits df1 df2
  try simp (disch := omega) only [pV_some, pE_some, pU_some, st_add, st_sub, st_mul, st_quo, st_rem, st_eql, st_neq, st_lss, st_leq, st_gtr, st_geq, st_seq, st_sneq, st_beq, st_bneq, st_not, st_neg, st_lenS, st_capS, st_lenT, st_fldA, st_conv, st_pick, st_ext0, st_ext1, st_ext2, st_ext3, st_nilS, st_nilP, st_nilF, st_nilE, st_nilN, st_none, st_some, st_true, st_false, nilC, add_lit, Nat.zero_add, Nat.add_zero, nth0, nth1, nth2, nth3, nth4, nth5, nth6, List.getElem?_cons_succ, List.getElem?_cons_zero, cond_true, cond_false, pSC_orp, pSC_andp, wrap_i64, Bool.not_true, Bool.not_false, eq_self, decide_true, Bool.or_self]
  refine pSC_or_f rfl (same_of (oxx.reads (r := hy ++ hz ++ h3) (hs6.re (fun _ => by simp only [cnt_nil, cnt_cons, cnt_append]; omega))) (ozz.reads (r := hx ++ hy ++ h3) (hs6.re (fun _ => by simp only [cnt_nil, cnt_cons, cnt_append]; omega))) fx (ex.trans ez.symm) (fun w7 hs7' => ?_))
  have hs7 := hs6.call hs7'
  try simp (disch := omega) only [pV_some, pE_some, pU_some, st_add, st_sub, st_mul, st_quo, st_rem, st_eql, st_neq, st_lss, st_leq, st_gtr, st_geq, st_seq, st_sneq, st_beq, st_bneq, st_not, st_neg, st_lenS, st_capS, st_lenT, st_fldA, st_conv, st_pick, st_ext0, st_ext1, st_ext2, st_ext3, st_nilS, st_nilP, st_nilF, st_nilE, st_nilN, st_none, st_some, st_true, st_false, nilC, add_lit, Nat.zero_add, Nat.add_zero, nth0, nth1, nth2, nth3, nth4, nth5, nth6, List.getElem?_cons_succ, List.getElem?_cons_zero, cond_true, cond_false, pSC_orp, pSC_andp, wrap_i64, Bool.not_true, Bool.not_false]
  refine pSC_or_f rfl (same_of (oyy.reads (r := hx ++ hz ++ h3) (hs7.re (fun _ => by simp only [cnt_nil, cnt_cons, cnt_append]; omega))) (ozz.reads (r := hx ++ hy ++ h3) (hs7.re (fun _ => by simp only [cnt_nil, cnt_cons, cnt_append]; omega))) fy (ey.trans ez.symm) (fun w8 hs8' => ?_))
  have hs8 := hs7.call hs8'
  try simp (disch := omega) only [pV_some, pE_some, pU_some, st_add, st_sub, st_mul, st_quo, st_rem, st_eql, st_neq, st_lss, st_leq, st_gtr, st_geq, st_seq, st_sneq, st_beq, st_bneq, st_not, st_neg, st_lenS, st_capS, st_lenT, st_fldA, st_conv, st_pick, st_ext0, st_ext1, st_ext2, st_ext3, st_nilS, st_nilP, st_nilF, st_nilE, st_nilN, st_none, st_some, st_true, st_false, nilC, add_lit, Nat.zero_add, Nat.add_zero, nth0, nth1, nth2, nth3, nth4, nth5, nth6, List.getElem?_cons_succ, List.getElem?_cons_zero, cond_true, cond_false, pSC_orp, pSC_andp, wrap_i64, Bool.not_true, Bool.not_false]
  refine pSC_or_f rfl (sameB_of (hom.reads (h := hx ++ hy ++ hz) (hs8.re (fun _ => by simp only [cnt_nil, cnt_cons, cnt_append]; omega))) (hu1.gr hs8.tr) (by omega) (fun w9 hs9' => ?_))
  have hs9 := hs8.call hs9'
  try simp (disch := omega) only [pV_some, pE_some, pU_some, st_add, st_sub, st_mul, st_quo, st_rem, st_eql, st_neq, st_lss, st_leq, st_gtr, st_geq, st_seq, st_sneq, st_beq, st_bneq, st_not, st_neg, st_lenS, st_capS, st_lenT, st_fldA, st_conv, st_pick, st_ext0, st_ext1, st_ext2, st_ext3, st_nilS, st_nilP, st_nilF, st_nilE, st_nilN, st_none, st_some, st_true, st_false, nilC, add_lit, Nat.zero_add, Nat.add_zero, nth0, nth1, nth2, nth3, nth4, nth5, nth6, List.getElem?_cons_succ, List.getElem?_cons_zero, cond_true, cond_false, pSC_orp, pSC_andp, wrap_i64, Bool.not_true, Bool.not_false]
  refine pLoop_up (I := fun i vs w => vs = [.int .i64 (i : Nat)] ∧ l.length ≤ i ∧ St w9 no [] w) (l.length + 64) l.length (by omega) ⟨rfl, Nat.le_refl _, St.nil _ _⟩ ?_
  rintro i vs w10 hi ⟨rfl, hin, hs10'⟩ go hgo
  have hs10 := hs9.call hs10'
  have r10 := ho3.reads (h := hx ++ hy ++ hz) (hs10.re (fun _ => by simp only [cnt_nil, cnt_cons, cnt_append]; omega))
  try simp (disch := omega) only [pV_some, pE_some, pU_some, st_add, st_sub, st_mul, st_quo, st_rem, st_eql, st_neq, st_lss, st_leq, st_gtr, st_geq, st_seq, st_sneq, st_beq, st_bneq, st_not, st_neg, st_lenS, st_capS, st_lenT, st_fldA, st_conv, st_pick, st_ext0, st_ext1, st_ext2, st_ext3, st_nilS, st_nilP, st_nilF, st_nilE, st_nilN, st_none, st_some, st_true, st_false, nilC, add_lit, Nat.zero_add, Nat.add_zero, nth0, nth1, nth2, nth3, nth4, nth5, nth6, List.getElem?_cons_succ, List.getElem?_cons_zero, cond_true, cond_false, pSC_orp, pSC_andp, wrap_i64, Bool.not_true, Bool.not_false, ho3.len, List.length_append, List.length_replicate]
  refine pIf_of (fun hlt => ?_) (fun hlt => ?_)
  · have hlt : i < l.length + 64 := by simp at hlt; omega
    have hg : (l ++ List.replicate 64 90)[i]? = some 90 := by
      rw [List.getElem?_append_right (by omega), List.getElem?_replicate, if_pos (by omega)]
    obtain ⟨a1, i1, c1⟩ := r10.at1 (bys_at hg) (x := i) rfl
    have c2 : w10.cell? a1 = some (.int .u8 90) := c1
    try simp (disch := omega) only [pV_some, pE_some, pU_some, st_add, st_sub, st_mul, st_quo, st_rem, st_eql, st_neq, st_lss, st_leq, st_gtr, st_geq, st_seq, st_sneq, st_beq, st_bneq, st_not, st_neg, st_lenS, st_capS, st_lenT, st_fldA, st_conv, st_pick, st_ext0, st_ext1, st_ext2, st_ext3, st_nilS, st_nilP, st_nilF, st_nilE, st_nilN, st_none, st_some, st_true, st_false, nilC, add_lit, Nat.zero_add, Nat.add_zero, nth0, nth1, nth2, nth3, nth4, nth5, nth6, List.getElem?_cons_succ, List.getElem?_cons_zero, cond_true, cond_false, pSC_orp, pSC_andp, wrap_i64, Bool.not_true, Bool.not_false, i1, ld1r c2, eq_self, decide_true]
    exact hgo _ _ hlt ⟨by simp, by omega, hs10'⟩
  have hs10a : St w1 no (hx ++ (hy ++ (hz ++ h3))) w10 := hs10.re (fun _ => by simp only [cnt_nil, cnt_cons, cnt_append]; omega)
  refine F11_pc (spoilt_spec oxx hs10a.self fx (fun w11 ht11 => ?_))
  have hs11 : St w1 no (hy ++ (hz ++ h3)) w11 := hs10a.gone ht11
  refine pLoop_up (I := fun i vs w => ∃ (ys : List Nat) (h : HP), vs = [.int .i64 (i : Nat)] ∧ ys.length = l.length + 64 ∧ (∀ c ∈ ys, c < 256) ∧ OwnB v3 ys h ∧ St w1 no (h ++ (hy ++ hz)) w) (l.length + 64) 0 (by omega) ⟨_, h3, rfl, by simp, ?_, ho3, hs11.re (fun _ => by simp only [cnt_nil, cnt_cons, cnt_append]; omega)⟩ ?_
  · intro c hc
    rcases List.mem_append.1 hc with h | h
    · exact hb c h
    · rw [List.eq_of_mem_replicate h]; omega
  rintro j vs w12 hj ⟨ys, h12, rfl, hyl, hyb, ho12, hs12⟩ go2 hgo2
  try simp (disch := omega) only [pV_some, pE_some, pU_some, st_add, st_sub, st_mul, st_quo, st_rem, st_eql, st_neq, st_lss, st_leq, st_gtr, st_geq, st_seq, st_sneq, st_beq, st_bneq, st_not, st_neg, st_lenS, st_capS, st_lenT, st_fldA, st_conv, st_pick, st_ext0, st_ext1, st_ext2, st_ext3, st_nilS, st_nilP, st_nilF, st_nilE, st_nilN, st_none, st_some, st_true, st_false, nilC, add_lit, Nat.zero_add, Nat.add_zero, nth0, nth1, nth2, nth3, nth4, nth5, nth6, List.getElem?_cons_succ, List.getElem?_cons_zero, cond_true, cond_false, pSC_orp, pSC_andp, wrap_i64, Bool.not_true, Bool.not_false, ho12.len, hyl]
  refine pIf_of (fun hlt2 => ?_) (fun hlt2 => ?_)
  · have hlt2 : j < l.length + 64 := by simp at hlt2; omega
    obtain ⟨ad, i1, _, hput⟩ := own_setB ho12 (r := hy ++ hz) hs12 (i := j) (by omega) (x := j) rfl
    try simp (disch := omega) only [pV_some, pE_some, pU_some, st_add, st_sub, st_mul, st_quo, st_rem, st_eql, st_neq, st_lss, st_leq, st_gtr, st_geq, st_seq, st_sneq, st_beq, st_bneq, st_not, st_neg, st_lenS, st_capS, st_lenT, st_fldA, st_conv, st_pick, st_ext0, st_ext1, st_ext2, st_ext3, st_nilS, st_nilP, st_nilF, st_nilE, st_nilN, st_none, st_some, st_true, st_false, nilC, add_lit, Nat.zero_add, Nat.add_zero, nth0, nth1, nth2, nth3, nth4, nth5, nth6, List.getElem?_cons_succ, List.getElem?_cons_zero, cond_true, cond_false, pSC_orp, pSC_andp, wrap_i64, Bool.not_true, Bool.not_false, i1]
    refine hput 7 w12 _ hs12 (fun kk' w' ho' hs' => ?_)
    refine hgo2 _ _ hlt2 ⟨_, kk', by simp, by simpa using hyl, fun c hc => ?_, ho', hs'⟩
    rcases List.mem_or_eq_of_mem_set hc with h | h
    · exact hyb c h
    · omega
  try simp (disch := omega) only [pV_some, pE_some, pU_some, st_add, st_sub, st_mul, st_quo, st_rem, st_eql, st_neq, st_lss, st_leq, st_gtr, st_geq, st_seq, st_sneq, st_beq, st_bneq, st_not, st_neg, st_lenS, st_capS, st_lenT, st_fldA, st_conv, st_pick, st_ext0, st_ext1, st_ext2, st_ext3, st_nilS, st_nilP, st_nilF, st_nilE, st_nilN, st_none, st_some, st_true, st_false, nilC, add_lit, Nat.zero_add, Nat.add_zero, nth0, nth1, nth2, nth3, nth4, nth5, nth6, List.getElem?_cons_succ, List.getElem?_cons_zero, cond_true, cond_false, pSC_orp, pSC_andp, wrap_i64, Bool.not_true, Bool.not_false]
  refine pSC_or_f rfl (same_of (oyy.reads (r := hz ++ h12) (hs12.re (fun _ => by simp only [cnt_nil, cnt_cons, cnt_append]; omega))) (ozz.reads (r := hy ++ h12) (hs12.re (fun _ => by simp only [cnt_nil, cnt_cons, cnt_append]; omega))) fy (ey.trans ez.symm) (fun w13 hs13' => ?_))
  have hs13 := hs12.call hs13'
  obtain ⟨vm2, hcut2, hom2⟩ := cutm (ys.take l.length) (ys.drop l.length) h12 (by simp; omega) (by rw [List.take_append_drop]; exact ho12)
  obtain rfl : vm2 = vm := by rw [hcut] at hcut2; exact (Option.some.inj hcut2).symm
  have hb2 : ∀ c ∈ ys.take l.length, c < 256 := fun c hc => hyb c (List.mem_of_mem_take hc)
  obtain ⟨dg1, dg2⟩ := Dec_fits hb2
  try simp (disch := omega) only [pV_some, pE_some, pU_some, st_add, st_sub, st_mul, st_quo, st_rem, st_eql, st_neq, st_lss, st_leq, st_gtr, st_geq, st_seq, st_sneq, st_beq, st_bneq, st_not, st_neg, st_lenS, st_capS, st_lenT, st_fldA, st_conv, st_pick, st_ext0, st_ext1, st_ext2, st_ext3, st_nilS, st_nilP, st_nilF, st_nilE, st_nilN, st_none, st_some, st_true, st_false, nilC, add_lit, Nat.zero_add, Nat.add_zero, nth0, nth1, nth2, nth3, nth4, nth5, nth6, List.getElem?_cons_succ, List.getElem?_cons_zero, cond_true, cond_false, pSC_orp, pSC_andp, wrap_i64, Bool.not_true, Bool.not_false, hcut]
  refine F16_pc (refdecode_spec (hom2.reads (h := hy ++ hz) (hs13.re (fun _ => by simp only [cnt_nil, cnt_cons, cnt_append]; omega))) (by simp; omega) hb2 (fun q hq w14 oq hs14' => ?_))
  have hs14 := hs13.call hs14'
  try simp (disch := omega) only [pV_some, pE_some, pU_some, st_add, st_sub, st_mul, st_quo, st_rem, st_eql, st_neq, st_lss, st_leq, st_gtr, st_geq, st_seq, st_sneq, st_beq, st_bneq, st_not, st_neg, st_lenS, st_capS, st_lenT, st_fldA, st_conv, st_pick, st_ext0, st_ext1, st_ext2, st_ext3, st_nilS, st_nilP, st_nilF, st_nilE, st_nilN, st_none, st_some, st_true, st_false, nilC, add_lit, Nat.zero_add, Nat.add_zero, nth0, nth1, nth2, nth3, nth4, nth5, nth6, List.getElem?_cons_succ, List.getElem?_cons_zero, cond_true, cond_false, pSC_orp, pSC_andp, wrap_i64, Bool.not_true, Bool.not_false]
  refine F15_pc (decode_spec (hom2.reads (h := hy ++ hz ++ hq) (hs14.re (fun _ => by simp only [cnt_nil, cnt_cons, cnt_append]; omega))) (by simp; omega) hb2 (fun r hr w15 or hs15' => ?_))
  have hs15 := hs14.call hs15'
  obtain ⟨pq, eq, oqq, fq⟩ := oq.fits dg1 dg2
  obtain ⟨pr, er, orr, fr⟩ := or.fits dg1 dg2
  try simp (disch := omega) only [pV_some, pE_some, pU_some, st_add, st_sub, st_mul, st_quo, st_rem, st_eql, st_neq, st_lss, st_leq, st_gtr, st_geq, st_seq, st_sneq, st_beq, st_bneq, st_not, st_neg, st_lenS, st_capS, st_lenT, st_fldA, st_conv, st_pick, st_ext0, st_ext1, st_ext2, st_ext3, st_nilS, st_nilP, st_nilF, st_nilE, st_nilN, st_none, st_some, st_true, st_false, nilC, add_lit, Nat.zero_add, Nat.add_zero, nth0, nth1, nth2, nth3, nth4, nth5, nth6, List.getElem?_cons_succ, List.getElem?_cons_zero, cond_true, cond_false, pSC_orp, pSC_andp, wrap_i64, Bool.not_true, Bool.not_false]
  refine same_of (orr.reads (r := hq ++ (h12 ++ (hy ++ hz))) (hs15.re (fun _ => by simp only [cnt_nil, cnt_cons, cnt_append]; omega))) (oqq.reads (r := hr ++ (h12 ++ (hy ++ hz))) (hs15.re (fun _ => by simp only [cnt_nil, cnt_cons, cnt_append]; omega))) fr (er.trans eq.symm) (fun w16 hs16' => ?_)
  have hs16 := hs15.call hs16'
  try simp (disch := omega) only [pV_some, pE_some, pU_some, st_add, st_sub, st_mul, st_quo, st_rem, st_eql, st_neq, st_lss, st_leq, st_gtr, st_geq, st_seq, st_sneq, st_beq, st_bneq, st_not, st_neg, st_lenS, st_capS, st_lenT, st_fldA, st_conv, st_pick, st_ext0, st_ext1, st_ext2, st_ext3, st_nilS, st_nilP, st_nilF, st_nilE, st_nilN, st_none, st_some, st_true, st_false, nilC, add_lit, Nat.zero_add, Nat.add_zero, nth0, nth1, nth2, nth3, nth4, nth5, nth6, List.getElem?_cons_succ, List.getElem?_cons_zero, cond_true, cond_false, pSC_orp, pSC_andp, wrap_i64, Bool.not_true, Bool.not_false, eq_self, decide_true, Bool.and_self]
  exact k w16 (ht1.then_ hs16.tr)
end Go.Proofs.Ytcghhhjklihpkaa
