/- script: Merge and Cut, the program's and the document's: what they tell. -/
import Derived.Test.YtcghhhjklihpkaaSmC
set_option linter.unusedSimpArgs false
set_option linter.unusedVariables false
namespace Go.Proofs.Ytcghhhjklihpkaa
open Go.Bk Go.RowKit

def mrg : List In → List In → List In
  | a, [] => a
  | [], b => b
  | x :: a, y :: b => if x.t ≤ y.t then x :: mrg a (y :: b) else y :: mrg (x :: a) b
  termination_by a b => a.length + b.length

theorem mrg_nil (a : List In) : mrg a [] = a := by cases a <;> simp [mrg]
theorem nil_mrg (b : List In) : mrg [] b = b := by cases b <;> simp [mrg]
theorem mrg_cons (x y : In) (a b : List In) : mrg (x :: a) (y :: b) = if x.t ≤ y.t then x :: mrg a (y :: b) else y :: mrg (x :: a) b := by rw [mrg]

theorem InsR.drop {w : World} {v : Value} {ps : List (In × Value)} (h : InsR w v ps) {m : Nat} (hm : m ≤ ps.length) {x : Int} (hx : x = m) : ∃ v', slV 4 v (some (.int .i64 x)) none none = some v' ∧ InsR w v' (ps.drop m) := by
  obtain ⟨v', h1, h2⟩ := h.c.drop hm hx
  refine ⟨v', h1, ⟨?_, fun p hp => h.d p (List.mem_of_mem_drop hp)⟩⟩
  rw [rows, flat_drop row 4 (fun _ => rfl)] at h2
  rw [List.length_drop]
  exact h2

/-- What is asked of lists. -/
def Fits (ps : List (In × Value)) : Prop := ps.length ≤ 134217728 ∧ ∀ p ∈ ps, p.1.d.length ≤ 1073741824

/-- Merge's loop: what is left of both, and what stands in the answer. -/
def MInv (w : World) (all : List In) (m : Nat) (vs : List Value) (w' : World) : Prop :=
  ∃ va vb vo pa pb po h, vs = [va, vb, vo] ∧ m = pa.length + pb.length ∧ InsR w va pa ∧ InsR w vb pb ∧ Fits pa ∧ Fits pb ∧ OwnIns vo po h ∧ St w no h w' ∧ po.length + pa.length + pb.length ≤ 536870912 ∧ po.map (·.1) ++ mrg (pa.map (·.1)) (pb.map (·.1)) = all

theorem merge_spec {w0 : World} {v u : Value} {ps qs : List (In × Value)} (hp : InsR w0 v ps) (hq : InsR w0 u qs) (fp : Fits ps) (fq : Fits qs) {K : Value → World → Prop}
    (k : ∀ v' rs h w', OwnIns v' rs h → rs.map (·.1) = mrg (ps.map (·.1)) (qs.map (·.1)) → St w0 no h w' → K v' w') : F6 v u w0 K := by
  unfold F6
  refine ⟨MInv w0 (mrg (ps.map (·.1)) (qs.map (·.1))), ps.length + qs.length, ⟨v, u, _, ps, qs, [], [], rfl, rfl, hp, hq, fp, fq, ownIns_nil, St.nil _ _, by have := fp.1; have := fq.1; simp; omega, by simp⟩, ?_⟩
  rintro m vs w' ⟨va, vb, vo, pa, pb, po, h, rfl, hm, ha, hb, fa, fb, ho, hs, hl, he⟩
  have fa1 := fa.1
  have fb1 := fb.1
  simp (disch := omega) only [pV_some, pE_some, pU_some, st_add, st_sub, st_mul, st_quo, st_rem, st_eql, st_neq, st_lss, st_leq, st_gtr, st_geq, st_seq, st_sneq, st_beq, st_bneq, st_not, st_neg, st_lenS, st_capS, st_lenT, st_fldA, st_conv, st_pick, st_ext0, st_ext1, st_ext2, st_ext3, st_nilS, st_nilP, st_nilF, st_nilE, st_nilN, st_none, st_some, st_true, st_false, nilC, add_lit, Nat.zero_add, Nat.add_zero, nth0, nth1, nth2, nth3, nth4, nth5, nth6, List.getElem?_cons_succ, List.getElem?_cons_zero, cond_true, cond_false, pSC_orp, pSC_andp, wrap_i64, Bool.not_true, Bool.not_false, ha.c.len, hb.c.len]
  have takeA : ∀ p pa', pa = p :: pa' → (pb = [] ∨ ∃ q pb', pb = q :: pb' ∧ p.1.t ≤ q.1.t) → ∀ w1, Tr w' no w1 → pDraw w1 fun w => pV (idxV 4 va (.int .i64 0)) fun t33_18 =>
          pV (ldV true 4 w t33_18) fun t34_19 =>
          pCall Try.prog 18 [t34_19] w fun t35_20 w =>
          pE (mkE 42 4 [t35_20] w) fun t36_21 w =>
          pE (semE Try.prog (Builtin.append_ #[22, 22] 22 #[vo, t36_21]) w) fun t37_22 w =>
          pV (slV 4 va (some (.int .i64 1)) none none) fun t39_23 =>
          ∃ m', m' < m ∧ MInv w0 (mrg (ps.map (·.1)) (qs.map (·.1))) m' [t39_23, vb, t37_22] w := by
    intro p pa' hpa hc w1 ht1
    subst hpa
    refine pDraw_st (hs.gr ht1) (fun w2 hs2 ht2 => ?_)
    obtain ⟨a1, i1, c1⟩ := (ha.gr hs2.tr).at (i := 0) (p := p) rfl (x := 0) rfl
    obtain ⟨va', s1, ha'⟩ := ha.drop (m := 1) (by simp) (x := 1) rfl
    simp (disch := omega) only [pV_some, pE_some, pU_some, st_add, st_sub, st_mul, st_quo, st_rem, st_eql, st_neq, st_lss, st_leq, st_gtr, st_geq, st_seq, st_sneq, st_beq, st_bneq, st_not, st_neg, st_lenS, st_capS, st_lenT, st_fldA, st_conv, st_pick, st_ext0, st_ext1, st_ext2, st_ext3, st_nilS, st_nilP, st_nilF, st_nilE, st_nilN, st_none, st_some, st_true, st_false, nilC, add_lit, Nat.zero_add, Nat.add_zero, nth0, nth1, nth2, nth3, nth4, nth5, nth6, List.getElem?_cons_succ, List.getElem?_cons_zero, cond_true, cond_false, pSC_orp, pSC_andp, wrap_i64, Bool.not_true, Bool.not_false, i1, s1, row_ld c1]
    refine ownmore ho (h := []) (by simpa using hs2) ((ha.d p (by simp)).gr hs2.tr) (Nat.le_trans (fa.2 p (by simp)) (by omega)) (by omega) (fun v' s' hp' w3 ho3 hs3 => ?_)
    refine ⟨pa'.length + pb.length, by simp at hm; omega, va', vb, v', pa', pb, po ++ [(p.1, s')], hp', rfl, rfl, ha', hb, ⟨by simp at fa1; omega, fun x hx => fa.2 x (List.mem_cons_of_mem _ hx)⟩, fb, ho3, by simpa using hs3, by simp at hl ⊢; omega, ?_⟩
    rw [← he]
    rcases hc with rfl | ⟨q, pb', rfl, hle⟩
    · simp [mrg_nil]
    · simp only [List.map_append, List.map_cons, List.map_nil, List.append_assoc, List.cons_append, List.nil_append]
      rw [mrg_cons, if_pos hle]
  have takeB : ∀ q pb', pb = q :: pb' → (pa = [] ∨ ∃ p pa', pa = p :: pa' ∧ ¬ p.1.t ≤ q.1.t) → ∀ w1, Tr w' no w1 → pDraw w1 fun w => pV (idxV 4 vb (.int .i64 0)) fun t33_18 =>
          pV (ldV true 4 w t33_18) fun t34_19 =>
          pCall Try.prog 18 [t34_19] w fun t35_20 w =>
          pE (mkE 42 4 [t35_20] w) fun t36_21 w =>
          pE (semE Try.prog (Builtin.append_ #[22, 22] 22 #[vo, t36_21]) w) fun t37_22 w =>
          pV (slV 4 vb (some (.int .i64 1)) none none) fun t39_23 =>
          ∃ m', m' < m ∧ MInv w0 (mrg (ps.map (·.1)) (qs.map (·.1))) m' [va, t39_23, t37_22] w := by
    intro p pa' hpa hc w1 ht1
    subst hpa
    refine pDraw_st (hs.gr ht1) (fun w2 hs2 ht2 => ?_)
    obtain ⟨a1, i1, c1⟩ := (hb.gr hs2.tr).at (i := 0) (p := p) rfl (x := 0) rfl
    obtain ⟨va', s1, ha'⟩ := hb.drop (m := 1) (by simp) (x := 1) rfl
    simp (disch := omega) only [pV_some, pE_some, pU_some, st_add, st_sub, st_mul, st_quo, st_rem, st_eql, st_neq, st_lss, st_leq, st_gtr, st_geq, st_seq, st_sneq, st_beq, st_bneq, st_not, st_neg, st_lenS, st_capS, st_lenT, st_fldA, st_conv, st_pick, st_ext0, st_ext1, st_ext2, st_ext3, st_nilS, st_nilP, st_nilF, st_nilE, st_nilN, st_none, st_some, st_true, st_false, nilC, add_lit, Nat.zero_add, Nat.add_zero, nth0, nth1, nth2, nth3, nth4, nth5, nth6, List.getElem?_cons_succ, List.getElem?_cons_zero, cond_true, cond_false, pSC_orp, pSC_andp, wrap_i64, Bool.not_true, Bool.not_false, i1, s1, row_ld c1]
    refine ownmore ho (h := []) (by simpa using hs2) ((hb.d p (by simp)).gr hs2.tr) (Nat.le_trans (fb.2 p (by simp)) (by omega)) (by omega) (fun v' s' hp' w3 ho3 hs3 => ?_)
    refine ⟨pa.length + pa'.length, by simp at hm; omega, va, va', v', pa, pa', po ++ [(p.1, s')], hp', rfl, rfl, ha, ha', fa, ⟨by simp at fb1; omega, fun x hx => fb.2 x (List.mem_cons_of_mem _ hx)⟩, ho3, by simpa using hs3, by simp at hl ⊢; omega, ?_⟩
    rw [← he]
    rcases hc with rfl | ⟨q, pb', rfl, hle⟩
    · simp [nil_mrg]
    · simp only [List.map_append, List.map_cons, List.map_nil, List.append_assoc, List.cons_append, List.nil_append]
      rw [mrg_cons, if_neg hle]
  refine pIf_of (fun hlt => ?_) (fun hlt => ?_)
  · refine pJoin_id ?_
    refine pDraw_st hs (fun w1 hs1 ht1 => ?_)
    cases hpb : pb with
    | nil =>
      refine pSC_or_t (by simp) ?_
      simp (disch := omega) only [pV_some, pE_some, pU_some, st_add, st_sub, st_mul, st_quo, st_rem, st_eql, st_neq, st_lss, st_leq, st_gtr, st_geq, st_seq, st_sneq, st_beq, st_bneq, st_not, st_neg, st_lenS, st_capS, st_lenT, st_fldA, st_conv, st_pick, st_ext0, st_ext1, st_ext2, st_ext3, st_nilS, st_nilP, st_nilF, st_nilE, st_nilN, st_none, st_some, st_true, st_false, nilC, add_lit, Nat.zero_add, Nat.add_zero, nth0, nth1, nth2, nth3, nth4, nth5, nth6, List.getElem?_cons_succ, List.getElem?_cons_zero, cond_true, cond_false, pSC_orp, pSC_andp, wrap_i64, Bool.not_true, Bool.not_false]
      cases hpa : pa with
      | nil => subst hpa hpb; simp at hlt
      | cons p pa' => exact takeA p pa' hpa (.inl hpb) w1 ht1
    | cons q pb' =>
      refine pSC_or_f (by simp; omega) ?_
      cases hpa : pa with
      | nil =>
        refine pSC_and_f (by simp) ?_
        simp (disch := omega) only [pV_some, pE_some, pU_some, st_add, st_sub, st_mul, st_quo, st_rem, st_eql, st_neq, st_lss, st_leq, st_gtr, st_geq, st_seq, st_sneq, st_beq, st_bneq, st_not, st_neg, st_lenS, st_capS, st_lenT, st_fldA, st_conv, st_pick, st_ext0, st_ext1, st_ext2, st_ext3, st_nilS, st_nilP, st_nilF, st_nilE, st_nilN, st_none, st_some, st_true, st_false, nilC, add_lit, Nat.zero_add, Nat.add_zero, nth0, nth1, nth2, nth3, nth4, nth5, nth6, List.getElem?_cons_succ, List.getElem?_cons_zero, cond_true, cond_false, pSC_orp, pSC_andp, wrap_i64, Bool.not_true, Bool.not_false]
        exact takeB q pb' hpb (.inl hpa) w1 ht1
      | cons p pa' =>
        refine pSC_and_t (by simp) ?_
        subst hpa hpb
        obtain ⟨a1, i1, c1⟩ := (ha.gr hs1.tr).at (i := 0) (p := p) rfl (x := 0) rfl
        obtain ⟨a2, i2, c2⟩ := (hb.gr hs1.tr).at (i := 0) (p := q) rfl (x := 0) rfl
        simp (disch := omega) only [pV_some, pE_some, pU_some, st_add, st_sub, st_mul, st_quo, st_rem, st_eql, st_neq, st_lss, st_leq, st_gtr, st_geq, st_seq, st_sneq, st_beq, st_bneq, st_not, st_neg, st_lenS, st_capS, st_lenT, st_fldA, st_conv, st_pick, st_ext0, st_ext1, st_ext2, st_ext3, st_nilS, st_nilP, st_nilF, st_nilE, st_nilN, st_none, st_some, st_true, st_false, nilC, add_lit, Nat.zero_add, Nat.add_zero, nth0, nth1, nth2, nth3, nth4, nth5, nth6, List.getElem?_cons_succ, List.getElem?_cons_zero, cond_true, cond_false, pSC_orp, pSC_andp, wrap_i64, Bool.not_true, Bool.not_false, i1, i2, c1.fld (j := 0) rfl, c2.fld (j := 0) rfl]
        refine pIf_of (fun hle => ?_) (fun hle => ?_)
        · have hx := takeA p pa' rfl (.inr ⟨q, pb', rfl, by simpa using hle⟩) w1 ht1
          simp only [i1, pV_some] at hx; exact hx
        · have hx := takeB q pb' rfl (.inr ⟨p, pa', rfl, by simpa using hle⟩) w1 ht1
          simp only [i2, pV_some] at hx; exact hx
  · have : pa = [] ∧ pb = [] := by
      simp at hlt
      constructor <;> apply List.eq_nil_of_length_eq_zero <;> omega
    obtain ⟨rfl, rfl⟩ := this
    exact k vo po h w' ho (by simpa [mrg_nil] using he) hs

/-- The document's Merge. -/
def RInv (w : World) (ps qs : List (In × Value)) (m : Nat) (vs : List Value) (w' : World) : Prop :=
  ∃ vo i j po h, vs = [vo, .int .i64 (i : Nat), .int .i64 (j : Nat)] ∧ m = (ps.length - i) + (qs.length - j) ∧ i ≤ ps.length ∧ j ≤ qs.length ∧ OwnIns vo po h ∧ St w no h w' ∧ po.length ≤ i + j ∧ po.map (·.1) ++ mrg ((ps.drop i).map (·.1)) ((qs.drop j).map (·.1)) = mrg (ps.map (·.1)) (qs.map (·.1))

theorem refmerge_spec {w0 : World} {v u : Value} {ps qs : List (In × Value)} (hp : InsR w0 v ps) (hq : InsR w0 u qs) (fp : Fits ps) (fq : Fits qs) {K : Value → World → Prop}
    (k : ∀ v' rs h w', OwnIns v' rs h → rs.map (·.1) = mrg (ps.map (·.1)) (qs.map (·.1)) → St w0 no h w' → K v' w') : F8 v u w0 K := by
  unfold F8
  refine ⟨RInv w0 ps qs, ps.length + qs.length, ⟨_, 0, 0, [], [], rfl, by simp, by simp, by simp, ownIns_nil, St.nil _ _, by simp, by simp⟩, ?_⟩
  rintro m vs w' ⟨vo, i, j, po, h, rfl, hm, hi, hj, ho, hs, hl, he⟩
  have fp1 := fp.1
  have fq1 := fq.1
  simp (disch := omega) only [pV_some, pE_some, pU_some, st_add, st_sub, st_mul, st_quo, st_rem, st_eql, st_neq, st_lss, st_leq, st_gtr, st_geq, st_seq, st_sneq, st_beq, st_bneq, st_not, st_neg, st_lenS, st_capS, st_lenT, st_fldA, st_conv, st_pick, st_ext0, st_ext1, st_ext2, st_ext3, st_nilS, st_nilP, st_nilF, st_nilE, st_nilN, st_none, st_some, st_true, st_false, nilC, add_lit, Nat.zero_add, Nat.add_zero, nth0, nth1, nth2, nth3, nth4, nth5, nth6, List.getElem?_cons_succ, List.getElem?_cons_zero, cond_true, cond_false, pSC_orp, pSC_andp, wrap_i64, Bool.not_true, Bool.not_false, hp.c.len, hq.c.len]
  refine pIf_of (fun hlt => ?_) (fun hlt => ?_)
  · refine pJoin_id ?_
    refine pDraw_st hs (fun w1 hs1 ht1 => ?_)
    have takeA : ∀ p, ps[i]? = some p → (qs.drop j = [] ∨ ∃ q qr, qs.drop j = q :: qr ∧ p.1.t ≤ q.1.t) →
        pV (idxV 4 v (.int .i64 i)) fun t44_19 => pV (ldV true 4 w1 t44_19) fun t45_20 => pCall Try.prog 19 [vo, t45_20] w1 fun t46_21 w =>
        ∃ m', m' < m ∧ RInv w0 ps qs m' [t46_21, .int .i64 (i + 1), .int .i64 j] w := by
      intro p hpi hc
      obtain ⟨a1, i1, c1⟩ := (hp.gr hs1.tr).at hpi (x := i) rfl
      simp (disch := omega) only [pV_some, pE_some, pU_some, st_add, st_sub, st_mul, st_quo, st_rem, st_eql, st_neq, st_lss, st_leq, st_gtr, st_geq, st_seq, st_sneq, st_beq, st_bneq, st_not, st_neg, st_lenS, st_capS, st_lenT, st_fldA, st_conv, st_pick, st_ext0, st_ext1, st_ext2, st_ext3, st_nilS, st_nilP, st_nilF, st_nilE, st_nilN, st_none, st_some, st_true, st_false, nilC, add_lit, Nat.zero_add, Nat.add_zero, nth0, nth1, nth2, nth3, nth4, nth5, nth6, List.getElem?_cons_succ, List.getElem?_cons_zero, cond_true, cond_false, pSC_orp, pSC_andp, wrap_i64, Bool.not_true, Bool.not_false, i1, row_ld c1]
      have hlt := (List.getElem?_eq_some_iff.1 hpi).1
      have hmem : p ∈ ps := List.mem_of_getElem? hpi
      refine F19_pc (with_spec ho (h := []) (by simpa using hs1) ((hp.d p hmem).gr hs1.tr) (Nat.le_trans (fp.2 p hmem) (by omega)) (by omega) (fun v' s' hp' w3 ho3 hs3 => ?_))
      refine ⟨(ps.length - (i + 1)) + (qs.length - j), by omega, v', i + 1, j, po ++ [(p.1, s')], hp', by simp, rfl, by omega, hj, ho3, by simpa using hs3, by simp; omega, ?_⟩
      rw [← he]
      have hd : ps.drop i = p :: ps.drop (i + 1) := by rw [List.drop_eq_getElem_cons hlt]; simp [(List.getElem?_eq_some_iff.1 hpi).2]
      rw [hd]
      rcases hc with hc | ⟨q, qr, hc, hle⟩
      · simp [mrg_nil, hc]
      · rw [hc]
        simp only [List.map_append, List.map_cons, List.map_nil, List.append_assoc, List.cons_append, List.nil_append]
        rw [mrg_cons, if_pos hle]
    have takeB : ∀ q, qs[j]? = some q → (ps.drop i = [] ∨ ∃ p pr, ps.drop i = p :: pr ∧ ¬ p.1.t ≤ q.1.t) →
        pV (idxV 4 u (.int .i64 j)) fun t44_19 => pV (ldV true 4 w1 t44_19) fun t45_20 => pCall Try.prog 19 [vo, t45_20] w1 fun t46_21 w =>
        ∃ m', m' < m ∧ RInv w0 ps qs m' [t46_21, .int .i64 i, .int .i64 (j + 1)] w := by
      intro q hqj hc
      obtain ⟨a1, i1, c1⟩ := (hq.gr hs1.tr).at hqj (x := j) rfl
      simp (disch := omega) only [pV_some, pE_some, pU_some, st_add, st_sub, st_mul, st_quo, st_rem, st_eql, st_neq, st_lss, st_leq, st_gtr, st_geq, st_seq, st_sneq, st_beq, st_bneq, st_not, st_neg, st_lenS, st_capS, st_lenT, st_fldA, st_conv, st_pick, st_ext0, st_ext1, st_ext2, st_ext3, st_nilS, st_nilP, st_nilF, st_nilE, st_nilN, st_none, st_some, st_true, st_false, nilC, add_lit, Nat.zero_add, Nat.add_zero, nth0, nth1, nth2, nth3, nth4, nth5, nth6, List.getElem?_cons_succ, List.getElem?_cons_zero, cond_true, cond_false, pSC_orp, pSC_andp, wrap_i64, Bool.not_true, Bool.not_false, i1, row_ld c1]
      have hlt := (List.getElem?_eq_some_iff.1 hqj).1
      have hmem : q ∈ qs := List.mem_of_getElem? hqj
      refine F19_pc (with_spec ho (h := []) (by simpa using hs1) ((hq.d q hmem).gr hs1.tr) (Nat.le_trans (fq.2 q hmem) (by omega)) (by omega) (fun v' s' hp' w3 ho3 hs3 => ?_))
      refine ⟨(ps.length - i) + (qs.length - (j + 1)), by omega, v', i, j + 1, po ++ [(q.1, s')], hp', by simp, rfl, hi, by omega, ho3, by simpa using hs3, by simp; omega, ?_⟩
      rw [← he]
      have hd : qs.drop j = q :: qs.drop (j + 1) := by rw [List.drop_eq_getElem_cons hlt]; simp [(List.getElem?_eq_some_iff.1 hqj).2]
      rw [hd]
      rcases hc with hc | ⟨p, pr, hc, hle⟩
      · simp [nil_mrg, hc]
      · rw [hc]
        simp only [List.map_append, List.map_cons, List.map_nil, List.append_assoc, List.cons_append, List.nil_append]
        rw [mrg_cons, if_neg hle]
    by_cases hjl : j = qs.length
    · refine pSC_or_t (by simp [hjl]) ?_
      simp (disch := omega) only [pV_some, pE_some, pU_some, st_add, st_sub, st_mul, st_quo, st_rem, st_eql, st_neq, st_lss, st_leq, st_gtr, st_geq, st_seq, st_sneq, st_beq, st_bneq, st_not, st_neg, st_lenS, st_capS, st_lenT, st_fldA, st_conv, st_pick, st_ext0, st_ext1, st_ext2, st_ext3, st_nilS, st_nilP, st_nilF, st_nilE, st_nilN, st_none, st_some, st_true, st_false, nilC, add_lit, Nat.zero_add, Nat.add_zero, nth0, nth1, nth2, nth3, nth4, nth5, nth6, List.getElem?_cons_succ, List.getElem?_cons_zero, cond_true, cond_false, pSC_orp, pSC_andp, wrap_i64, Bool.not_true, Bool.not_false]
      have hil : i < ps.length := by simp at hlt; omega
      have := takeA _ (List.getElem?_eq_getElem hil) (.inl (by simp [hjl]))
      simpa (disch := omega) only [wrap_i64] using this
    · refine pSC_or_f (by simp; omega) ?_
      have hjl' : j < qs.length := by omega
      have hq1 := List.getElem?_eq_getElem hjl'
      by_cases hil : i = ps.length
      · refine pSC_and_f (by simp [hil]) ?_
        simp (disch := omega) only [pV_some, pE_some, pU_some, st_add, st_sub, st_mul, st_quo, st_rem, st_eql, st_neq, st_lss, st_leq, st_gtr, st_geq, st_seq, st_sneq, st_beq, st_bneq, st_not, st_neg, st_lenS, st_capS, st_lenT, st_fldA, st_conv, st_pick, st_ext0, st_ext1, st_ext2, st_ext3, st_nilS, st_nilP, st_nilF, st_nilE, st_nilN, st_none, st_some, st_true, st_false, nilC, add_lit, Nat.zero_add, Nat.add_zero, nth0, nth1, nth2, nth3, nth4, nth5, nth6, List.getElem?_cons_succ, List.getElem?_cons_zero, cond_true, cond_false, pSC_orp, pSC_andp, wrap_i64, Bool.not_true, Bool.not_false]
        have := takeB _ hq1 (.inl (by simp [hil]))
        simpa (disch := omega) only [wrap_i64] using this
      · have hil' : i < ps.length := by omega
        have hp1 := List.getElem?_eq_getElem hil'
        refine pSC_and_t (by simp; omega) ?_
        obtain ⟨a1, i1, c1⟩ := (hp.gr hs1.tr).at hp1 (x := i) rfl
        obtain ⟨a2, i2, c2⟩ := (hq.gr hs1.tr).at hq1 (x := j) rfl
        have tA := takeA _ hp1
        have tB := takeB _ hq1
        simp only [i1, i2, pV_some] at tA tB
        simp (disch := omega) only [pV_some, pE_some, pU_some, st_add, st_sub, st_mul, st_quo, st_rem, st_eql, st_neq, st_lss, st_leq, st_gtr, st_geq, st_seq, st_sneq, st_beq, st_bneq, st_not, st_neg, st_lenS, st_capS, st_lenT, st_fldA, st_conv, st_pick, st_ext0, st_ext1, st_ext2, st_ext3, st_nilS, st_nilP, st_nilF, st_nilE, st_nilN, st_none, st_some, st_true, st_false, nilC, add_lit, Nat.zero_add, Nat.add_zero, nth0, nth1, nth2, nth3, nth4, nth5, nth6, List.getElem?_cons_succ, List.getElem?_cons_zero, cond_true, cond_false, pSC_orp, pSC_andp, wrap_i64, Bool.not_true, Bool.not_false, i1, i2, c1.fld (j := 0) rfl, c2.fld (j := 0) rfl]
        refine pIf_of (fun hle => ?_) (fun hle => ?_)
        · exact tA (.inr ⟨qs[j], qs.drop (j + 1), List.drop_eq_getElem_cons hjl', by simpa using hle⟩)
        · exact tB (.inr ⟨ps[i], ps.drop (i + 1), List.drop_eq_getElem_cons hil', by simpa using hle⟩)
  · have : i = ps.length ∧ j = qs.length := by
      simp at hlt
      omega
    obtain ⟨rfl, rfl⟩ := this
    exact k vo po h w' ho (by simpa [mrg_nil] using he) hs
end Go.Proofs.Ytcghhhjklihpkaa
