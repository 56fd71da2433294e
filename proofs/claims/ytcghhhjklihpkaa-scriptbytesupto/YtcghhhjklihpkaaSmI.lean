/- script: the law ScriptMixes is true of all that reads as lists of inputs. -/
import Derived.Test.YtcghhhjklihpkaaSmH
set_option linter.unusedSimpArgs false
set_option linter.unusedVariables false
namespace Go.Proofs.Ytcghhhjklihpkaa
open Go.Bk Go.RowKit

theorem slM {a : Value} {qs : List (In × Value)} {o : HP} (h : OwnM a qs marks o) : ∃ v2, slV 4 a none (some (.int .i64 (qs.length + 8))) none = some v2 ∧ ∀ (w0 w : World) (M : Nat → Prop) (r inn : HP), Inn qs inn → St w0 M (o ++ (inn ++ r)) w → InsR w v2 (qs ++ marks) := by
  obtain ⟨g, cap, sp, rfl, h1, h2, h3, rfl⟩ := h
  have hm : marks.length = 8 := rfl
  rw [hm] at h1
  have e : ((qs.length : Int) + 8) = ((qs.length + 8 : Nat) : Int) := by simp
  refine ⟨.slice (some ⟨g, 0, none⟩) (qs.length + 8) cap, ?_, fun w0 w M r inn hi hs => ⟨⟨?_, _, _, by rw [List.length_append, hm], by rw [List.length_append, hm]; exact h1, by simp, fun ad he => ?_⟩, fun p hp => ?_⟩⟩
  · rw [e]
    simp only [slV, bnd, hiD, Option.bind_some, Option.isNone_some, Option.isSome_none, Bool.and_false, Int.toNat_natCast]
    rw [if_pos ⟨by omega, by omega⟩]
    simp [add_zero]
  · rw [rows_len]
  · cases he
    have := (hs.has _ (List.mem_cons_self ..)).cellsAt 0
    simp only [List.drop_zero] at this
    have := this.take (rows (qs ++ marks)).length
    simpa using this
  · rcases List.mem_append.1 hp with hp | hp
    · exact hi.reads (r := r ++ [(g, ⟨rows (qs ++ marks) ++ sp, 42⟩)]) (hs.re (fun _ => by simp only [cnt_nil, cnt_cons, cnt_append]; omega)) p hp
    · obtain rfl : p = mark := List.eq_of_mem_replicate hp
      exact ⟨rfl, none, 0, rfl, Nat.le_refl _, fun _ => rfl, fun ad h => by cases h⟩

theorem fits_of {qs : List (In × Value)} {ps : List (In × Value)} (h : qs.map (·.1) = ps.map (·.1)) (fp : Fits ps) : Fits qs := by
  refine ⟨by have := congrArg List.length h; simp at this; rw [this]; exact fp.1, fun p hp => ?_⟩
  have : p.1 ∈ qs.map (·.1) := List.mem_map.2 ⟨p, hp, rfl⟩
  rw [h] at this
  obtain ⟨q, hq, he⟩ := List.mem_map.1 this
  rw [← he]; exact fp.2 q hq
theorem mrg_mem : ∀ {a b : List In} {x : In}, x ∈ mrg a b → x ∈ a ∨ x ∈ b
  | a, [], x, h => by rw [mrg_nil] at h; exact .inl h
  | [], b, x, h => by rw [nil_mrg] at h; exact .inr h
  | y :: a, z :: b, x, h => by
    rw [mrg_cons] at h
    split at h
    · rcases List.mem_cons.1 h with rfl | h
      · exact .inl (List.mem_cons_self ..)
      · rcases mrg_mem h with h | h
        · exact .inl (List.mem_cons_of_mem _ h)
        · exact .inr h
    · rcases List.mem_cons.1 h with rfl | h
      · exact .inr (List.mem_cons_self ..)
      · rcases mrg_mem h with h | h
        · exact .inl h
        · exact .inr (List.mem_cons_of_mem _ h)
  termination_by a b => a.length + b.length
theorem mrg_len : ∀ (a b : List In), (mrg a b).length = a.length + b.length
  | a, [] => by simp [mrg_nil]
  | [], b => by simp [nil_mrg]
  | x :: a, y :: b => by
    rw [mrg_cons]
    split
    · simp [mrg_len a (y :: b)]; omega
    · simp [mrg_len (x :: a) b]; omega
  termination_by a b => a.length + b.length
/-- What is asked of the lists of a law's input. -/
def Fits2 (ps : List (In × Value)) : Prop := ps.length ≤ 1048576 ∧ ∀ p ∈ ps, p.1.d.length ≤ 1048576
theorem Fits2.fits {ps : List (In × Value)} (h : Fits2 ps) : Fits ps := ⟨Nat.le_trans h.1 (by omega), fun p hp => Nat.le_trans (h.2 p hp) (by omega)⟩

theorem Fits.of_mrg {rs ps qs : List (In × Value)} (h : rs.map (·.1) = mrg (ps.map (·.1)) (qs.map (·.1))) (fp : Fits ps) (fq : Fits qs) (hl : ps.length + qs.length ≤ 134217728) : Fits rs := by
  refine ⟨?_, fun p hp => ?_⟩
  · have := congrArg List.length h
    rw [mrg_len] at this
    simp at this
    omega
  · have : p.1 ∈ rs.map (·.1) := List.mem_map.2 ⟨p, hp, rfl⟩
    rw [h] at this
    rcases mrg_mem this with h | h
    · obtain ⟨q, hq, he⟩ := List.mem_map.1 h; rw [← he]; exact fp.2 q hq
    · obtain ⟨q, hq, he⟩ := List.mem_map.1 h; rw [← he]; exact fq.2 q hq
theorem Fits.of_cut {rs ps : List (In × Value)} {f b : Int} (h : rs.map (·.1) = cutL f b (ps.map (·.1))) (fp : Fits ps) : Fits rs := by
  refine ⟨?_, fun p hp => ?_⟩
  · have h1 := congrArg List.length h
    have h2 : (cutL f b (ps.map (·.1))).length ≤ (ps.map (·.1)).length := List.length_filter_le ..
    have := fp.1
    simp at h1 h2
    omega
  · have : p.1 ∈ rs.map (·.1) := List.mem_map.2 ⟨p, hp, rfl⟩
    rw [h] at this
    obtain ⟨q, hq, he⟩ := List.mem_map.1 (List.mem_filter.1 this).1
    rw [← he]; exact fp.2 q hq
theorem same_of {w : World} {v u : Value} {ps qs : List (In × Value)} (hp : InsR w v ps) (hq : InsR w u qs) (fp : Fits ps) (he : ps.map (·.1) = qs.map (·.1)) {K : Value → World → Prop}
    (k : ∀ w', St w no [] w' → K (.bool true) w') : pCall Try.prog 10 [v, u] w K :=
  F10_pc (same_spec hp hq (fun p h => Nat.le_trans (fp.2 p h) (by omega)) (Nat.le_trans fp.1 (by omega)) (fun w' hs' => by
    have := k w' hs'
    rw [show decide (ps.map (·.1) = qs.map (·.1)) = true by simp [he]]
    exact this))

theorem mixes_spec {w0 : World} {one two : Value} {ps qs : List (In × Value)} (hp : InsR w0 one ps) (hq : InsR w0 two qs) (fp2 : Fits2 ps) (fq2 : Fits2 qs) (f b : Int) {K : Value → World → Prop}
    (k : ∀ w', Tr w0 no w' → K (.bool true) w') : F3 one two (.int .i64 f) (.int .i64 b) w0 K := by
  unfold F3
  have fp := fp2.fits
  have fq := fq2.fits
  have hlen : ps.length + qs.length ≤ 134217728 := by have := fp2.1; have := fq2.1; omega
  refine F5_pc (handed_spec hp fp (fun a x za oa ox ia w1 hza hoa hox hxi hai hs1 => ?_))
  simp (disch := omega) only [pV_some, pE_some, pU_some, st_add, st_sub, st_mul, st_quo, st_rem, st_eql, st_neq, st_lss, st_leq, st_gtr, st_geq, st_seq, st_sneq, st_beq, st_bneq, st_not, st_neg, st_lenS, st_capS, st_lenT, st_fldA, st_conv, st_pick, st_ext0, st_ext1, st_ext2, st_ext3, st_nilS, st_nilP, st_nilF, st_nilE, st_nilN, st_none, st_some, st_true, st_false, nilC, add_lit, Nat.zero_add, Nat.add_zero, nth0, nth1, nth2, nth3, nth4, nth5, nth6, List.getElem?_cons_succ, List.getElem?_cons_zero, cond_true, cond_false, pSC_orp, pSC_andp, wrap_i64, Bool.not_true, Bool.not_false]
  refine F5_pc (handed_spec (hq.gr hs1.tr) fq (fun bb y zb ob oy ib w2 hzb hob hoy hyi hbi hs2' => ?_))
  have hs2 := hs1.call hs2'
  have eA : (za.map cutP).map (·.1) = ps.map (·.1) := by rw [← hza]; simp only [List.map_map]; rfl
  have eB : (zb.map cutP).map (·.1) = qs.map (·.1) := by rw [← hzb]; simp only [List.map_map]; rfl
  have fA := fits_of eA fp
  have fB := fits_of eB fq
  have hone := hp.gr hs2.tr
  have htwo := hq.gr hs2.tr
  have hA : InsR w2 a (za.map cutP) := ⟨hoa.own.reads (h := ia ++ ox ++ ob ++ oy ++ ib) (hs2.re (fun _ => by simp only [cnt_nil, cnt_cons, cnt_append]; omega)), hai.reads (r := oa ++ ox ++ ob ++ oy ++ ib) (hs2.re (fun _ => by simp only [cnt_nil, cnt_cons, cnt_append]; omega))⟩
  have hB : InsR w2 bb (zb.map cutP) := ⟨hob.own.reads (h := ia ++ ox ++ oa ++ oy ++ ib) (hs2.re (fun _ => by simp only [cnt_nil, cnt_cons, cnt_append]; omega)), hbi.reads (r := oa ++ ox ++ ob ++ oy ++ ia) (hs2.re (fun _ => by simp only [cnt_nil, cnt_cons, cnt_append]; omega))⟩
  have hX : InsR w2 x (za.map wideP ++ marks) := ⟨hox.reads (h := ia ++ oa ++ ob ++ oy ++ ib) (hs2.re (fun _ => by simp only [cnt_nil, cnt_cons, cnt_append]; omega)), hxi.reads (r := oa ++ ox ++ ob ++ oy ++ ib) (hs2.re (fun _ => by simp only [cnt_nil, cnt_cons, cnt_append]; omega))⟩
  have hY : InsR w2 y (zb.map wideP ++ marks) := ⟨hoy.reads (h := ia ++ oa ++ ob ++ ox ++ ib) (hs2.re (fun _ => by simp only [cnt_nil, cnt_cons, cnt_append]; omega)), hyi.reads (r := oa ++ ox ++ ob ++ oy ++ ia) (hs2.re (fun _ => by simp only [cnt_nil, cnt_cons, cnt_append]; omega))⟩
  obtain ⟨va, hva, hva2⟩ := slM hoa
  obtain ⟨vb, hvb, hvb2⟩ := slM hob
  have hVA := hva2 w0 w2 no (ox ++ ob ++ oy ++ ib) ia hai (hs2.re (fun _ => by simp only [cnt_nil, cnt_cons, cnt_append]; omega))
  have hVB := hvb2 w0 w2 no (ox ++ oa ++ oy ++ ia) ib hbi (hs2.re (fun _ => by simp only [cnt_nil, cnt_cons, cnt_append]; omega))
  have lA : (za.map cutP).length = ps.length := by simpa using congrArg List.length eA
  have lB : (zb.map cutP).length = qs.length := by simpa using congrArg List.length eB
  rw [lA] at hva
  rw [lB] at hvb
  have eX : (za.map wideP ++ marks).map (·.1) = (ps.map (·.1)).map wide ++ marks.map (·.1) := by rw [List.map_append, ← hza]; congr 1; simp only [List.map_map]; rfl
  have eY : (zb.map wideP ++ marks).map (·.1) = (qs.map (·.1)).map wide ++ marks.map (·.1) := by rw [List.map_append, ← hzb]; congr 1; simp only [List.map_map]; rfl
  simp (disch := omega) only [pV_some, pE_some, pU_some, st_add, st_sub, st_mul, st_quo, st_rem, st_eql, st_neq, st_lss, st_leq, st_gtr, st_geq, st_seq, st_sneq, st_beq, st_bneq, st_not, st_neg, st_lenS, st_capS, st_lenT, st_fldA, st_conv, st_pick, st_ext0, st_ext1, st_ext2, st_ext3, st_nilS, st_nilP, st_nilF, st_nilE, st_nilN, st_none, st_some, st_true, st_false, nilC, add_lit, Nat.zero_add, Nat.add_zero, nth0, nth1, nth2, nth3, nth4, nth5, nth6, List.getElem?_cons_succ, List.getElem?_cons_zero, cond_true, cond_false, pSC_orp, pSC_andp, wrap_i64, Bool.not_true, Bool.not_false]
  refine F6_pc (merge_spec hA hB fA fB (fun m rm hm w3 om em hs3 => ?_))
  refine F7_pc (cut_spec (hA.gr hs3.tr) fA f b (fun c rc hc w4 oc ec hs4' => ?_))
  have hs4 := hs3.call hs4'
  refine F6_pc (merge_spec (hA.gr hs4.tr) (hB.gr hs4.tr) fA fB (fun m2 rm2 hm2 w5 om2 em2 hs5' => ?_))
  have hs5 := hs4.call hs5'
  refine F7_pc (cut_spec (hA.gr hs5.tr) fA f b (fun c2 rc2 hc2 w6 oc2 ec2 hs6' => ?_))
  have hs6 := hs5.call hs6'
  refine F8_pc (refmerge_spec (hone.gr hs6.tr) (htwo.gr hs6.tr) fp fq (fun p rp hp' w7 op ep hs7' => ?_))
  have hs7 := hs6.call hs7'
  refine F9_pc (refcut_spec (hone.gr hs7.tr) fp f b (fun q rq hq' w8 oq eq hs8' => ?_))
  have hs8 := hs7.call hs8'
  rw [eA, eB] at em em2
  rw [eA] at ec ec2
  have fm := Fits.of_mrg em fp fq hlen
  have fm2 := Fits.of_mrg em2 fp fq hlen
  have fc := Fits.of_cut ec fp
  have fc2 := Fits.of_cut ec2 fp
  refine same_of (om.reads (r := hc ++ hm2 ++ hc2 ++ hp' ++ hq') (hs8.re (fun _ => by simp only [cnt_nil, cnt_cons, cnt_append]; omega))) (op.reads (r := hm ++ hc ++ hm2 ++ hc2 ++ hq') (hs8.re (fun _ => by simp only [cnt_nil, cnt_cons, cnt_append]; omega))) fm (em.trans ep.symm) (fun w9 hs9' => ?_)
  have hs9 := hs8.call hs9'
  simp (disch := omega) only [pV_some, pE_some, pU_some, st_add, st_sub, st_mul, st_quo, st_rem, st_eql, st_neq, st_lss, st_leq, st_gtr, st_geq, st_seq, st_sneq, st_beq, st_bneq, st_not, st_neg, st_lenS, st_capS, st_lenT, st_fldA, st_conv, st_pick, st_ext0, st_ext1, st_ext2, st_ext3, st_nilS, st_nilP, st_nilF, st_nilE, st_nilN, st_none, st_some, st_true, st_false, nilC, add_lit, Nat.zero_add, Nat.add_zero, nth0, nth1, nth2, nth3, nth4, nth5, nth6, List.getElem?_cons_succ, List.getElem?_cons_zero, cond_true, cond_false, pSC_orp, pSC_andp, wrap_i64, Bool.not_true, Bool.not_false]
  refine pSC_or_f rfl (same_of (oc.reads (r := hm ++ hm2 ++ hc2 ++ hp' ++ hq') (hs9.re (fun _ => by simp only [cnt_nil, cnt_cons, cnt_append]; omega))) (oq.reads (r := hm ++ hc ++ hm2 ++ hc2 ++ hp') (hs9.re (fun _ => by simp only [cnt_nil, cnt_cons, cnt_append]; omega))) fc (ec.trans eq.symm) (fun w10 hs10' => ?_))
  have hs10 := hs9.call hs10'
  simp (disch := omega) only [pV_some, pE_some, pU_some, st_add, st_sub, st_mul, st_quo, st_rem, st_eql, st_neq, st_lss, st_leq, st_gtr, st_geq, st_seq, st_sneq, st_beq, st_bneq, st_not, st_neg, st_lenS, st_capS, st_lenT, st_fldA, st_conv, st_pick, st_ext0, st_ext1, st_ext2, st_ext3, st_nilS, st_nilP, st_nilF, st_nilE, st_nilN, st_none, st_some, st_true, st_false, nilC, add_lit, Nat.zero_add, Nat.add_zero, nth0, nth1, nth2, nth3, nth4, nth5, nth6, List.getElem?_cons_succ, List.getElem?_cons_zero, cond_true, cond_false, pSC_orp, pSC_andp, wrap_i64, Bool.not_true, Bool.not_false]
  refine pSC_or_f rfl (same_of (om2.reads (r := hm ++ hc ++ hc2 ++ hp' ++ hq') (hs10.re (fun _ => by simp only [cnt_nil, cnt_cons, cnt_append]; omega))) (op.reads (r := hm ++ hc ++ hm2 ++ hc2 ++ hq') (hs10.re (fun _ => by simp only [cnt_nil, cnt_cons, cnt_append]; omega))) fm2 (em2.trans ep.symm) (fun w11 hs11' => ?_))
  have hs11 := hs10.call hs11'
  simp (disch := omega) only [pV_some, pE_some, pU_some, st_add, st_sub, st_mul, st_quo, st_rem, st_eql, st_neq, st_lss, st_leq, st_gtr, st_geq, st_seq, st_sneq, st_beq, st_bneq, st_not, st_neg, st_lenS, st_capS, st_lenT, st_fldA, st_conv, st_pick, st_ext0, st_ext1, st_ext2, st_ext3, st_nilS, st_nilP, st_nilF, st_nilE, st_nilN, st_none, st_some, st_true, st_false, nilC, add_lit, Nat.zero_add, Nat.add_zero, nth0, nth1, nth2, nth3, nth4, nth5, nth6, List.getElem?_cons_succ, List.getElem?_cons_zero, cond_true, cond_false, pSC_orp, pSC_andp, wrap_i64, Bool.not_true, Bool.not_false]
  refine pSC_or_f rfl (same_of (oc2.reads (r := hm ++ hc ++ hm2 ++ hp' ++ hq') (hs11.re (fun _ => by simp only [cnt_nil, cnt_cons, cnt_append]; omega))) (oq.reads (r := hm ++ hc ++ hm2 ++ hc2 ++ hp') (hs11.re (fun _ => by simp only [cnt_nil, cnt_cons, cnt_append]; omega))) fc2 (ec2.trans eq.symm) (fun w12 hs12' => ?_))
  have hs12 := hs11.call hs12'
  simp (disch := omega) only [pV_some, pE_some, pU_some, st_add, st_sub, st_mul, st_quo, st_rem, st_eql, st_neq, st_lss, st_leq, st_gtr, st_geq, st_seq, st_sneq, st_beq, st_bneq, st_not, st_neg, st_lenS, st_capS, st_lenT, st_fldA, st_conv, st_pick, st_ext0, st_ext1, st_ext2, st_ext3, st_nilS, st_nilP, st_nilF, st_nilE, st_nilN, st_none, st_some, st_true, st_false, nilC, add_lit, Nat.zero_add, Nat.add_zero, nth0, nth1, nth2, nth3, nth4, nth5, nth6, List.getElem?_cons_succ, List.getElem?_cons_zero, cond_true, cond_false, pSC_orp, pSC_andp, wrap_i64, Bool.not_true, Bool.not_false]
  have hs12a : St w2 no (hm ++ (hc ++ (hm2 ++ (hc2 ++ (hp' ++ hq'))))) w12 := hs12.re (fun _ => by simp only [cnt_nil, cnt_cons, cnt_append]; omega)
  refine F11_pc (spoilt_spec om hs12a.self fm (fun w13 ht13 => ?_))
  have hs13 := hs12a.gone ht13
  refine pSC_and_t rfl (same_of (oc.reads (r := hm2 ++ (hc2 ++ (hp' ++ hq'))) hs13) (oq.reads (r := hc ++ hm2 ++ hc2 ++ hp') (hs13.re (fun _ => by simp only [cnt_nil, cnt_cons, cnt_append]; omega))) fc (ec.trans eq.symm) (fun w14 hs14' => ?_))
  have hs14 := hs13.call hs14'
  refine pSC_and_t rfl (F11_pc (spoilt_spec oc (St.self (h := hm2 ++ (hc2 ++ (hp' ++ hq'))) hs14) fc (fun w15 ht15 => ?_)))
  have hs15 := St.gone (hin := hc) hs14 ht15
  simp (disch := omega) only [pV_some, pE_some, pU_some, st_add, st_sub, st_mul, st_quo, st_rem, st_eql, st_neq, st_lss, st_leq, st_gtr, st_geq, st_seq, st_sneq, st_beq, st_bneq, st_not, st_neg, st_lenS, st_capS, st_lenT, st_fldA, st_conv, st_pick, st_ext0, st_ext1, st_ext2, st_ext3, st_nilS, st_nilP, st_nilF, st_nilE, st_nilN, st_none, st_some, st_true, st_false, nilC, add_lit, Nat.zero_add, Nat.add_zero, nth0, nth1, nth2, nth3, nth4, nth5, nth6, List.getElem?_cons_succ, List.getElem?_cons_zero, cond_true, cond_false, pSC_orp, pSC_andp, wrap_i64, Bool.not_true, Bool.not_false]
  refine pSC_or_f rfl (same_of (om2.reads (r := hc2 ++ (hp' ++ hq')) hs15) (op.reads (r := hm2 ++ hc2 ++ hq') (hs15.re (fun _ => by simp only [cnt_nil, cnt_cons, cnt_append]; omega))) fm2 (em2.trans ep.symm) (fun w16 hs16' => ?_))
  have hs16 := hs15.call hs16'
  simp (disch := omega) only [pV_some, pE_some, pU_some, st_add, st_sub, st_mul, st_quo, st_rem, st_eql, st_neq, st_lss, st_leq, st_gtr, st_geq, st_seq, st_sneq, st_beq, st_bneq, st_not, st_neg, st_lenS, st_capS, st_lenT, st_fldA, st_conv, st_pick, st_ext0, st_ext1, st_ext2, st_ext3, st_nilS, st_nilP, st_nilF, st_nilE, st_nilN, st_none, st_some, st_true, st_false, nilC, add_lit, Nat.zero_add, Nat.add_zero, nth0, nth1, nth2, nth3, nth4, nth5, nth6, List.getElem?_cons_succ, List.getElem?_cons_zero, cond_true, cond_false, pSC_orp, pSC_andp, wrap_i64, Bool.not_true, Bool.not_false]
  refine pSC_or_f rfl (same_of (oc2.reads (r := hm2 ++ (hp' ++ hq')) (hs16.re (fun _ => by simp only [cnt_nil, cnt_cons, cnt_append]; omega))) (oq.reads (r := hm2 ++ hc2 ++ hp') (hs16.re (fun _ => by simp only [cnt_nil, cnt_cons, cnt_append]; omega))) fc2 (ec2.trans eq.symm) (fun w17 hs17' => ?_))
  have hs17 := hs16.call hs17'
  simp (disch := omega) only [pV_some, pE_some, pU_some, st_add, st_sub, st_mul, st_quo, st_rem, st_eql, st_neq, st_lss, st_leq, st_gtr, st_geq, st_seq, st_sneq, st_beq, st_bneq, st_not, st_neg, st_lenS, st_capS, st_lenT, st_fldA, st_conv, st_pick, st_ext0, st_ext1, st_ext2, st_ext3, st_nilS, st_nilP, st_nilF, st_nilE, st_nilN, st_none, st_some, st_true, st_false, nilC, add_lit, Nat.zero_add, Nat.add_zero, nth0, nth1, nth2, nth3, nth4, nth5, nth6, List.getElem?_cons_succ, List.getElem?_cons_zero, cond_true, cond_false, pSC_orp, pSC_andp, wrap_i64, Bool.not_true, Bool.not_false]
  refine pSC_or_f rfl (F12_pc (left_spec (hA.gr hs17.tr) (hX.gr hs17.tr) (hone.gr hs17.tr) fp eA eX hva (hVA.gr hs17.tr) (fun w18 hs18' => ?_)))
  have hs18 := hs17.call hs18'
  simp (disch := omega) only [pV_some, pE_some, pU_some, st_add, st_sub, st_mul, st_quo, st_rem, st_eql, st_neq, st_lss, st_leq, st_gtr, st_geq, st_seq, st_sneq, st_beq, st_bneq, st_not, st_neg, st_lenS, st_capS, st_lenT, st_fldA, st_conv, st_pick, st_ext0, st_ext1, st_ext2, st_ext3, st_nilS, st_nilP, st_nilF, st_nilE, st_nilN, st_none, st_some, st_true, st_false, nilC, add_lit, Nat.zero_add, Nat.add_zero, nth0, nth1, nth2, nth3, nth4, nth5, nth6, List.getElem?_cons_succ, List.getElem?_cons_zero, cond_true, cond_false, pSC_orp, pSC_andp, wrap_i64, Bool.not_true, Bool.not_false]
  refine pSC_or_f rfl (F12_pc (left_spec (hB.gr hs18.tr) (hY.gr hs18.tr) (htwo.gr hs18.tr) fq eB eY hvb (hVB.gr hs18.tr) (fun w19 hs19' => ?_)))
  have hs19 := hs2.call (hs18.call hs19')
  simp (disch := omega) only [pV_some, pE_some, pU_some, st_add, st_sub, st_mul, st_quo, st_rem, st_eql, st_neq, st_lss, st_leq, st_gtr, st_geq, st_seq, st_sneq, st_beq, st_bneq, st_not, st_neg, st_lenS, st_capS, st_lenT, st_fldA, st_conv, st_pick, st_ext0, st_ext1, st_ext2, st_ext3, st_nilS, st_nilP, st_nilF, st_nilE, st_nilN, st_none, st_some, st_true, st_false, nilC, add_lit, Nat.zero_add, Nat.add_zero, nth0, nth1, nth2, nth3, nth4, nth5, nth6, List.getElem?_cons_succ, List.getElem?_cons_zero, cond_true, cond_false, pSC_orp, pSC_andp, wrap_i64, Bool.not_true, Bool.not_false]
  refine F13_pc (turned_spec (r := ob ++ ib) hoa.own hai (hs19.re (fun _ => by simp only [cnt_nil, cnt_cons, cnt_append]; omega)) fA (fun qa oa' ia' w20 oA20 iA20 fA20 hs20 => ?_))
  refine F13_pc (turned_spec (r := oa' ++ ia') hob.own hbi (hs20.re (fun _ => by simp only [cnt_nil, cnt_cons, cnt_append]; omega)) fB (fun qb ob' ib' w21 oB21 iB21 fB21 hs21 => ?_))
  have hA2 : InsR w21 a qa := ⟨oA20.reads (h := ob' ++ ib' ++ ia') (hs21.re (fun _ => by simp only [cnt_nil, cnt_cons, cnt_append]; omega)), iA20.reads (r := ob' ++ ib' ++ oa') (hs21.re (fun _ => by simp only [cnt_nil, cnt_cons, cnt_append]; omega))⟩
  have hB2 : InsR w21 bb qb := ⟨oB21.reads (h := oa' ++ ib' ++ ia') (hs21.re (fun _ => by simp only [cnt_nil, cnt_cons, cnt_append]; omega)), iB21.reads (r := ob' ++ ia' ++ oa') (hs21.re (fun _ => by simp only [cnt_nil, cnt_cons, cnt_append]; omega))⟩
  have lA2 : qa.length = ps.length := by
    have h1 := oA20.len
    have h2 := hoa.own.len
    rw [h1] at h2
    simp at h2 lA
    omega
  have lB2 : qb.length = qs.length := by
    have h1 := oB21.len
    have h2 := hob.own.len
    rw [h1] at h2
    simp at h2 lB
    omega
  refine F5_pc (handed_spec hA2 fA20 (fun u ux zu ou oux iu w22 hzu hou _ _ hui hs22 => ?_))
  simp (disch := omega) only [pV_some, pE_some, pU_some, st_add, st_sub, st_mul, st_quo, st_rem, st_eql, st_neq, st_lss, st_leq, st_gtr, st_geq, st_seq, st_sneq, st_beq, st_bneq, st_not, st_neg, st_lenS, st_capS, st_lenT, st_fldA, st_conv, st_pick, st_ext0, st_ext1, st_ext2, st_ext3, st_nilS, st_nilP, st_nilF, st_nilE, st_nilN, st_none, st_some, st_true, st_false, nilC, add_lit, Nat.zero_add, Nat.add_zero, nth0, nth1, nth2, nth3, nth4, nth5, nth6, List.getElem?_cons_succ, List.getElem?_cons_zero, cond_true, cond_false, pSC_orp, pSC_andp, wrap_i64, Bool.not_true, Bool.not_false]
  refine F5_pc (handed_spec (hB2.gr hs22.tr) fB21 (fun v vx zv ov ovx iv w23 hzv hov _ _ hvi hs23' => ?_))
  have hs23 := hs22.call hs23'
  have eU : (zu.map cutP).map (·.1) = qa.map (·.1) := by rw [← hzu]; simp only [List.map_map]; rfl
  have eV : (zv.map cutP).map (·.1) = qb.map (·.1) := by rw [← hzv]; simp only [List.map_map]; rfl
  have hU : InsR w23 u (zu.map cutP) := ⟨hou.own.reads (h := iu ++ oux ++ ov ++ ovx ++ iv) (hs23.re (fun _ => by simp only [cnt_nil, cnt_cons, cnt_append]; omega)), hui.reads (r := ou ++ oux ++ ov ++ ovx ++ iv) (hs23.re (fun _ => by simp only [cnt_nil, cnt_cons, cnt_append]; omega))⟩
  have hV : InsR w23 v (zv.map cutP) := ⟨hov.own.reads (h := iu ++ oux ++ ou ++ ovx ++ iv) (hs23.re (fun _ => by simp only [cnt_nil, cnt_cons, cnt_append]; omega)), hvi.reads (r := ou ++ oux ++ ov ++ ovx ++ iu) (hs23.re (fun _ => by simp only [cnt_nil, cnt_cons, cnt_append]; omega))⟩
  have fU := fits_of eU fA20
  have fV := fits_of eV fB21
  have hlen2 : qa.length + qb.length ≤ 134217728 := by rw [lA2, lB2]; exact hlen
  simp (disch := omega) only [pV_some, pE_some, pU_some, st_add, st_sub, st_mul, st_quo, st_rem, st_eql, st_neq, st_lss, st_leq, st_gtr, st_geq, st_seq, st_sneq, st_beq, st_bneq, st_not, st_neg, st_lenS, st_capS, st_lenT, st_fldA, st_conv, st_pick, st_ext0, st_ext1, st_ext2, st_ext3, st_nilS, st_nilP, st_nilF, st_nilE, st_nilN, st_none, st_some, st_true, st_false, nilC, add_lit, Nat.zero_add, Nat.add_zero, nth0, nth1, nth2, nth3, nth4, nth5, nth6, List.getElem?_cons_succ, List.getElem?_cons_zero, cond_true, cond_false, pSC_orp, pSC_andp, wrap_i64, Bool.not_true, Bool.not_false]
  refine F6_pc (merge_spec (hA2.gr hs23.tr) (hB2.gr hs23.tr) fA20 fB21 (fun m3 rm3 hm3 w24 om3 em3 hs24 => ?_))
  refine F8_pc (refmerge_spec (hU.gr hs24.tr) (hV.gr hs24.tr) fU fV (fun p3 rp3 hp3 w25 op3 ep3 hs25' => ?_))
  have hs25 := hs24.call hs25'
  rw [eU, eV] at ep3
  refine same_of (om3.reads (r := hp3) (hs25.re (fun _ => by simp only [cnt_nil, cnt_cons, cnt_append]; omega))) (op3.reads (r := hm3) hs25) (Fits.of_mrg em3 fA20 fB21 hlen2) (em3.trans ep3.symm) (fun w26 hs26' => ?_)
  have hs26 := hs25.call hs26'
  refine pSC_and_t rfl (F7_pc (cut_spec ((hA2.gr hs23.tr).gr hs26.tr) fA20 f b (fun c3 rc3 hc3 w27 oc3 ec3 hs27 => ?_)))
  refine F9_pc (refcut_spec ((hU.gr hs26.tr).gr hs27.tr) fU f b (fun q3 rq3 hq3 w28 oq3 eq3 hs28' => ?_))
  have hs28 := hs27.call hs28'
  rw [eU] at eq3
  refine same_of (oc3.reads (r := hq3) (hs28.re (fun _ => by simp only [cnt_nil, cnt_cons, cnt_append]; omega))) (oq3.reads (r := hc3) hs28) (Fits.of_cut ec3 fA20) (ec3.trans eq3.symm) (fun w29 hs29' => ?_)
  exact k w29 ((((hs21.tr.then_ hs23.tr).then_ hs26.tr).then_ hs28.tr).then_ hs29'.tr)
end Go.Proofs.Ytcghhhjklihpkaa
