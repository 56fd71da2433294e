/- script: Cut, the program's and the document's: what they tell. -/
import Derived.Test.YtcghhhjklihpkaaSmD
set_option linter.unusedSimpArgs false
set_option linter.unusedVariables false
namespace Go.Proofs.Ytcghhhjklihpkaa
open Go.Bk Go.RowKit

def inCut (f b : Int) (x : In) : Bool := decide (f ≤ x.t) && decide (x.t < b)
def cutL (f b : Int) (xs : List In) : List In := xs.filter (inCut f b)

def CInv (w : World) (f b : Int) (ps : List (In × Value)) (i : Nat) (vs : List Value) (w' : World) : Prop :=
  ∃ vo po h, vs = [vo, .int .i64 (i : Nat)] ∧ OwnIns vo po h ∧ St w no h w' ∧ po.length ≤ i ∧ po.map (·.1) = cutL f b ((ps.take i).map (·.1))

theorem cut_step {f b : Int} {ps : List (In × Value)} {i : Nat} {p : In × Value} (hp : ps[i]? = some p) : cutL f b ((ps.take (i + 1)).map (·.1)) = cutL f b ((ps.take i).map (·.1)) ++ if inCut f b p.1 then [p.1] else [] := by
  rw [List.take_add_one, hp]
  simp only [cutL, Option.toList_some, List.map_append, List.map_cons, List.map_nil, List.filter_append, List.filter_cons, List.filter_nil]

theorem cut_spec {w0 : World} {v : Value} {ps : List (In × Value)} (hp : InsR w0 v ps) (fp : Fits ps) (f b : Int) {K : Value → World → Prop}
    (k : ∀ v' rs h w', OwnIns v' rs h → rs.map (·.1) = cutL f b (ps.map (·.1)) → St w0 no h w' → K v' w') : F7 v (.int .i64 f) (.int .i64 b) w0 K := by
  unfold F7
  have fp1 := fp.1
  simp (disch := omega) only [pV_some, pE_some, pU_some, st_add, st_sub, st_mul, st_quo, st_rem, st_eql, st_neq, st_lss, st_leq, st_gtr, st_geq, st_seq, st_sneq, st_beq, st_bneq, st_not, st_neg, st_lenS, st_capS, st_lenT, st_fldA, st_conv, st_pick, st_ext0, st_ext1, st_ext2, st_ext3, st_nilS, st_nilP, st_nilF, st_nilE, st_nilN, st_none, st_some, st_true, st_false, nilC, add_lit, Nat.zero_add, Nat.add_zero, nth0, nth1, nth2, nth3, nth4, nth5, nth6, List.getElem?_cons_succ, List.getElem?_cons_zero, cond_true, cond_false, pSC_orp, pSC_andp, wrap_i64, Bool.not_true, Bool.not_false, hp.c.len]
  refine pLoop_up (I := CInv w0 f b ps) ps.length 0 (Nat.zero_le _) ⟨_, [], [], rfl, ownIns_nil, St.nil _ _, by simp, by simp [cutL]⟩ ?_
  rintro i vs w hi ⟨vo, po, h, rfl, ho, hs, hl, he⟩ go hgo
  simp (disch := omega) only [pV_some, pE_some, pU_some, st_add, st_sub, st_mul, st_quo, st_rem, st_eql, st_neq, st_lss, st_leq, st_gtr, st_geq, st_seq, st_sneq, st_beq, st_bneq, st_not, st_neg, st_lenS, st_capS, st_lenT, st_fldA, st_conv, st_pick, st_ext0, st_ext1, st_ext2, st_ext3, st_nilS, st_nilP, st_nilF, st_nilE, st_nilN, st_none, st_some, st_true, st_false, nilC, add_lit, Nat.zero_add, Nat.add_zero, nth0, nth1, nth2, nth3, nth4, nth5, nth6, List.getElem?_cons_succ, List.getElem?_cons_zero, cond_true, cond_false, pSC_orp, pSC_andp, wrap_i64, Bool.not_true, Bool.not_false]
  refine pIf_of (fun hlt => ?_) (fun hlt => ?_)
  · have hlt : i < ps.length := by simpa using hlt
    refine pJoin_id ?_
    have hp1 := List.getElem?_eq_getElem hlt
    have hmem := List.getElem_mem hlt
    obtain ⟨a1, i1, c1⟩ := (hp.gr hs.tr).at hp1 (x := i) rfl
    simp (disch := omega) only [pV_some, pE_some, pU_some, st_add, st_sub, st_mul, st_quo, st_rem, st_eql, st_neq, st_lss, st_leq, st_gtr, st_geq, st_seq, st_sneq, st_beq, st_bneq, st_not, st_neg, st_lenS, st_capS, st_lenT, st_fldA, st_conv, st_pick, st_ext0, st_ext1, st_ext2, st_ext3, st_nilS, st_nilP, st_nilF, st_nilE, st_nilN, st_none, st_some, st_true, st_false, nilC, add_lit, Nat.zero_add, Nat.add_zero, nth0, nth1, nth2, nth3, nth4, nth5, nth6, List.getElem?_cons_succ, List.getElem?_cons_zero, cond_true, cond_false, pSC_orp, pSC_andp, wrap_i64, Bool.not_true, Bool.not_false, i1, row_ld c1]
    refine pE_boxc hs [.int .i64 0, .int .i64 0, .int .i64 0, .slice none 0 0] rfl (fun b1 w1 hs1 ht1 _ => ?_)
    have hd := (hp.d _ hmem).gr hs1.tr
    refine pU_st hs1 [.int .i64 ps[i].1.t, .int .i64 ps[i].1.k, .int .i64 ps[i].1.g, ps[i].2] rfl (by simp [Value.cells]) (row_one hd.one) rfl (fun w2 hs2 _ => ?_)
    have hB := hs2.top
    simp (disch := omega) only [pV_some, pE_some, pU_some, st_add, st_sub, st_mul, st_quo, st_rem, st_eql, st_neq, st_lss, st_leq, st_gtr, st_geq, st_seq, st_sneq, st_beq, st_bneq, st_not, st_neg, st_lenS, st_capS, st_lenT, st_fldA, st_conv, st_pick, st_ext0, st_ext1, st_ext2, st_ext3, st_nilS, st_nilP, st_nilF, st_nilE, st_nilN, st_none, st_some, st_true, st_false, nilC, add_lit, Nat.zero_add, Nat.add_zero, nth0, nth1, nth2, nth3, nth4, nth5, nth6, List.getElem?_cons_succ, List.getElem?_cons_zero, cond_true, cond_false, pSC_orp, pSC_andp, wrap_i64, Bool.not_true, Bool.not_false, hB.ld, hB.ldw (sz := 4) rfl]
    refine pIf_of (fun hc => ?_) (fun hc => ?_)
    · refine ownmore (p := ps[i]) ho (h := []) (hs2.re (fun _ => by simp only [cnt_nil, cnt_cons, cnt_append]; omega)) ((hp.d _ hmem).gr hs2.tr) (Nat.le_trans (fp.2 _ hmem) (by omega)) (by omega) (fun v' s' hp' w3 ho3 hs3 => ?_)
      refine hgo _ _ hlt ⟨v', po ++ [(ps[i].1, s')], hp', by simp, ho3, hs3.re (fun _ => by simp only [cnt_nil, cnt_cons, cnt_append]; omega), by simp; omega, ?_⟩
      rw [cut_step hp1, ← he, show inCut f b ps[i].1 = true from hc]
      simp
    · refine hgo _ _ hlt ⟨vo, po, h, by simp, ho, hs2.re (fun _ => by simp only [cnt_nil, cnt_cons, cnt_append]; omega), by omega, ?_⟩
      rw [cut_step hp1, ← he, show inCut f b ps[i].1 = false from hc]
      simp
  · obtain rfl : i = ps.length := by simp at hlt; omega
    exact k vo po h w ho (by simpa using he) hs

theorem refcut_spec {w0 : World} {v : Value} {ps : List (In × Value)} (hp : InsR w0 v ps) (fp : Fits ps) (f b : Int) {K : Value → World → Prop}
    (k : ∀ v' rs h w', OwnIns v' rs h → rs.map (·.1) = cutL f b (ps.map (·.1)) → St w0 no h w' → K v' w') : F9 v (.int .i64 f) (.int .i64 b) w0 K := by
  unfold F9
  have fp1 := fp.1
  refine pLoop_up (I := CInv w0 f b ps) ps.length 0 (Nat.zero_le _) ⟨_, [], [], rfl, ownIns_nil, St.nil _ _, by simp, by simp [cutL]⟩ ?_
  rintro i vs w hi ⟨vo, po, h, rfl, ho, hs, hl, he⟩ go hgo
  simp (disch := omega) only [pV_some, pE_some, pU_some, st_add, st_sub, st_mul, st_quo, st_rem, st_eql, st_neq, st_lss, st_leq, st_gtr, st_geq, st_seq, st_sneq, st_beq, st_bneq, st_not, st_neg, st_lenS, st_capS, st_lenT, st_fldA, st_conv, st_pick, st_ext0, st_ext1, st_ext2, st_ext3, st_nilS, st_nilP, st_nilF, st_nilE, st_nilN, st_none, st_some, st_true, st_false, nilC, add_lit, Nat.zero_add, Nat.add_zero, nth0, nth1, nth2, nth3, nth4, nth5, nth6, List.getElem?_cons_succ, List.getElem?_cons_zero, cond_true, cond_false, pSC_orp, pSC_andp, wrap_i64, Bool.not_true, Bool.not_false, hp.c.len]
  refine pIf_of (fun hlt => ?_) (fun hlt => ?_)
  · have hlt : i < ps.length := by simpa using hlt
    refine pJoin_id ?_
    have hp1 := List.getElem?_eq_getElem hlt
    have hmem := List.getElem_mem hlt
    obtain ⟨a1, i1, c1⟩ := (hp.gr hs.tr).at hp1 (x := i) rfl
    simp (disch := omega) only [pV_some, pE_some, pU_some, st_add, st_sub, st_mul, st_quo, st_rem, st_eql, st_neq, st_lss, st_leq, st_gtr, st_geq, st_seq, st_sneq, st_beq, st_bneq, st_not, st_neg, st_lenS, st_capS, st_lenT, st_fldA, st_conv, st_pick, st_ext0, st_ext1, st_ext2, st_ext3, st_nilS, st_nilP, st_nilF, st_nilE, st_nilN, st_none, st_some, st_true, st_false, nilC, add_lit, Nat.zero_add, Nat.add_zero, nth0, nth1, nth2, nth3, nth4, nth5, nth6, List.getElem?_cons_succ, List.getElem?_cons_zero, cond_true, cond_false, pSC_orp, pSC_andp, wrap_i64, Bool.not_true, Bool.not_false, i1, c1.fld (j := 0) rfl, row_ld c1]
    refine pIf_of (fun hc => ?_) (fun hc => ?_)
    · refine F19_pc (with_spec (p := ps[i]) ho (h := []) (by simpa using hs) ((hp.d _ hmem).gr hs.tr) (Nat.le_trans (fp.2 _ hmem) (by omega)) (by omega) (fun v' s' hp' w3 ho3 hs3 => ?_))
      refine hgo _ _ hlt ⟨v', po ++ [(ps[i].1, s')], hp', by simp, ho3, by simpa using hs3, by simp; omega, ?_⟩
      rw [cut_step hp1, ← he, show inCut f b ps[i].1 = true from hc]
      simp
    · refine hgo _ _ hlt ⟨vo, po, h, by simp, ho, hs, by omega, ?_⟩
      rw [cut_step hp1, ← he, show inCut f b ps[i].1 = false from hc]
      simp
  · obtain rfl : i = ps.length := by simp at hlt; omega
    exact k vo po h w ho (by simpa using he) hs
end Go.Proofs.Ytcghhhjklihpkaa
