/- wheel: the document's Arm, Cancel, Advance, New; what is asked. -/
import Derived.Test.YtbbjljhbiaeadaaWhN
set_option linter.unusedSimpArgs false
set_option linter.unusedVariables false
set_option maxRecDepth 100000
namespace Go.Proofs.Ytbbjljhbiaeadaa
open Go.Bk Go.RowKit

theorem newR_spec {w : World} (now : Int) {K : Value → World → Prop}
    (k1 : now < 0 ∨ 1099511627776 < now → ∀ w', St w no [] w' → K (.tuple #[wV 0 (.slice none 0 0), .int .i64 2]) w')
    (k2 : 0 ≤ now ∧ now ≤ 1099511627776 → ∀ w', St w no [] w' → K (.tuple #[wV now (.slice none 0 0), .int .i64 0]) w') : F19 (.int .i64 now) w K := by
  unfold F19
  refine pE_boxc (St.nil w no) [.int .i64 0, .slice none 0 0] rfl (fun b w1 hs1 _ _ => ?_)
  try simp (disch := omega) only [pV_some, pE_some, pU_some, st_add, st_sub, st_mul, st_quo, st_rem, st_eql, st_neq, st_lss, st_leq, st_gtr, st_geq, st_seq, st_sneq, st_beq, st_bneq, st_not, st_neg, st_lenS, st_capS, st_lenT, st_fldA, st_conv, st_pick, st_ext0, st_ext1, st_ext2, st_ext3, st_nilS, st_nilP, st_nilF, st_nilE, st_nilN, st_none, st_some, st_true, st_false, nilC, add_lit, Nat.zero_add, Nat.add_zero, nth0, nth1, nth2, nth3, nth4, nth5, nth6, List.getElem?_cons_succ, List.getElem?_cons_zero, cond_true, cond_false, pSC_orp, pSC_andp, wrap_i64, Bool.not_true, Bool.not_false]
  refine pIf_of (fun h => ?_) (fun h => ?_)
  · have h : now < 0 ∨ 1099511627776 < now := by simpa using h
    refine pV_eq (show _ = some (wV 0 (.slice none 0 0)) from rfl) ?_
    refine pU_st hs1 [.int .i64 0, .slice none 0 0] rfl (Nat.le_refl _) (by intro u hu; simp [Value.cells] at hu; rcases hu with rfl | rfl <;> rfl) rfl (fun w2 hs2 _ => ?_)
    have hlw : ldV true 2 w2 (.pointer (some ⟨b, 0, none⟩)) = some (wV 0 (.slice none 0 0)) := hs2.top.ldw rfl
    try simp (disch := omega) only [pV_some, pE_some, pU_some, st_add, st_sub, st_mul, st_quo, st_rem, st_eql, st_neq, st_lss, st_leq, st_gtr, st_geq, st_seq, st_sneq, st_beq, st_bneq, st_not, st_neg, st_lenS, st_capS, st_lenT, st_fldA, st_conv, st_pick, st_ext0, st_ext1, st_ext2, st_ext3, st_nilS, st_nilP, st_nilF, st_nilE, st_nilN, st_none, st_some, st_true, st_false, nilC, add_lit, Nat.zero_add, Nat.add_zero, nth0, nth1, nth2, nth3, nth4, nth5, nth6, List.getElem?_cons_succ, List.getElem?_cons_zero, cond_true, cond_false, pSC_orp, pSC_andp, wrap_i64, Bool.not_true, Bool.not_false, hlw]
    exact k1 h w2 (hs2.re (fun _ => by simp only [cnt_nil, cnt_cons, cnt_append]; omega))
  · have h : 0 ≤ now ∧ now ≤ 1099511627776 := by simp at h; omega
    refine pV_eq (show _ = some (wV now (.slice none 0 0)) from rfl) ?_
    refine pU_st hs1 [.int .i64 now, .slice none 0 0] rfl (Nat.le_refl _) (by intro u hu; simp [Value.cells] at hu; rcases hu with rfl | rfl <;> rfl) rfl (fun w2 hs2 _ => ?_)
    have hlw : ldV true 2 w2 (.pointer (some ⟨b, 0, none⟩)) = some (wV now (.slice none 0 0)) := hs2.top.ldw rfl
    try simp (disch := omega) only [pV_some, pE_some, pU_some, st_add, st_sub, st_mul, st_quo, st_rem, st_eql, st_neq, st_lss, st_leq, st_gtr, st_geq, st_seq, st_sneq, st_beq, st_bneq, st_not, st_neg, st_lenS, st_capS, st_lenT, st_fldA, st_conv, st_pick, st_ext0, st_ext1, st_ext2, st_ext3, st_nilS, st_nilP, st_nilF, st_nilE, st_nilN, st_none, st_some, st_true, st_false, nilC, add_lit, Nat.zero_add, Nat.add_zero, nth0, nth1, nth2, nth3, nth4, nth5, nth6, List.getElem?_cons_succ, List.getElem?_cons_zero, cond_true, cond_false, pSC_orp, pSC_andp, wrap_i64, Bool.not_true, Bool.not_false, hlw]
    exact k2 h w2 (hs2.re (fun _ => by simp only [cnt_nil, cnt_cons, cnt_append]; omega))

/-- Storing a wheel's value. -/
theorem pU_wV {w0 w : World} {M : Nat → Prop} {h : HP} {b : Nat} {c0 c1 : Value} {now : Int} {v : Value} {ty : TypeId} (hs : St w0 M ((b, ⟨[c0, c1], ty⟩) :: h) w) (hv : oneC v = true) {K : World → Prop}
    (k : ∀ w', St w0 M ((b, ⟨[.int .i64 now, v], ty⟩) :: h) w' → ldV true 2 w' (.pointer (some ⟨b, 0, none⟩)) = some (wV now v) → K w') : pU (stE 2 (.pointer (some ⟨b, 0, none⟩)) (wV now v) w) K := by
  have e : (wV now v).cells.toList = [.int .i64 now, v] := by simp [Value.cells]
  refine pU_st (o := 0) (sz := 2) (v := wV now v) hs [.int .i64 now, v] (by simp [Value.cells]) (by simp) (by rw [e]; intro u hu; simp at hu; rcases hu with rfl | rfl; rfl; exact hv) (by rw [e]; rfl) (fun w2 hs2 _ => k w2 hs2 (hs2.top.ldw rfl))

theorem armR_spec {w : World} {v : Value} {L : List (Int × Int)} (hv : RdF w v L) (hl : L.length ≤ 65536) (now id t : Int) {K : Value → World → Prop}
    (k1 : ¬ mayP now (t, id) → ∀ w', St w no [] w' → K (.tuple #[wV now v, .int .i64 2]) w')
    (k2 : mayP now (t, id) → ∀ v' hp' w', OwnF v' (insL (t, id) (remL id L)) hp' → St w no hp' w' → K (.tuple #[wV now v', .int .i64 0]) w') : F30 (wV now v) (.int .i64 id) (.int .i64 t) w K := by
  unfold F30
  obtain ⟨sa, sc, hve⟩ := hv.slice
  refine pE_boxc (St.nil w no) [.int .i64 now, v] (by subst hve; rfl) (fun b w1 hs1 _ _ => ?_)
  refine pE_boxc hs1 [.int .i64 0, .slice none 0 0] rfl (fun b2 w2 hs2 ht2 _ => ?_)
  have hB : Has w2 b ⟨[.int .i64 now, v], (.t 47)⟩ := hs2.top2
  have hl0 : ldV false 1 w2 (.pointer (some ⟨b, 0, none⟩)) = some (.int .i64 now) := hB.ld 0 1
  have hl1 : ldV false 1 w2 (.pointer (some ⟨b, 1, none⟩)) = some v := hB.ld 1 1
  have hlw : ldV true 2 w2 (.pointer (some ⟨b, 0, none⟩)) = some (wV now v) := hB.ldw rfl
  try simp (disch := omega) only [pV_some, pE_some, pU_some, st_add, st_sub, st_mul, st_quo, st_rem, st_eql, st_neq, st_lss, st_leq, st_gtr, st_geq, st_seq, st_sneq, st_beq, st_bneq, st_not, st_neg, st_lenS, st_capS, st_lenT, st_fldA, st_conv, st_pick, st_ext0, st_ext1, st_ext2, st_ext3, st_nilS, st_nilP, st_nilF, st_nilE, st_nilN, st_none, st_some, st_true, st_false, nilC, add_lit, Nat.zero_add, Nat.add_zero, nth0, nth1, nth2, nth3, nth4, nth5, nth6, List.getElem?_cons_succ, List.getElem?_cons_zero, cond_true, cond_false, pSC_orp, pSC_andp, wrap_i64, Bool.not_true, Bool.not_false, hl0, hl1, hlw]
  refine pIf_of (fun h => ?_) (fun h => ?_)
  · have h : ¬ mayP now (t, id) := by
      unfold mayP; simp only [Bool.or_eq_true, decide_eq_true_eq] at h
      omega
    refine pU_wV hs2 hv.one (fun w3 hs3 hl3 => ?_)
    try simp (disch := omega) only [pV_some, pE_some, pU_some, st_add, st_sub, st_mul, st_quo, st_rem, st_eql, st_neq, st_lss, st_leq, st_gtr, st_geq, st_seq, st_sneq, st_beq, st_bneq, st_not, st_neg, st_lenS, st_capS, st_lenT, st_fldA, st_conv, st_pick, st_ext0, st_ext1, st_ext2, st_ext3, st_nilS, st_nilP, st_nilF, st_nilE, st_nilN, st_none, st_some, st_true, st_false, nilC, add_lit, Nat.zero_add, Nat.add_zero, nth0, nth1, nth2, nth3, nth4, nth5, nth6, List.getElem?_cons_succ, List.getElem?_cons_zero, cond_true, cond_false, pSC_orp, pSC_andp, wrap_i64, Bool.not_true, Bool.not_false, hl3]
    exact k1 h w3 (hs3.re (fun _ => by simp only [cnt_nil, cnt_cons, cnt_append]; omega))
  · have h : mayP now (t, id) := by
      unfold mayP; simp only [Bool.or_eq_false_iff, decide_eq_false_iff_not] at h
      omega
    refine F40_pc (without_spec (hv.gr hs2.tr) (by omega) id (fun v3 hp3 w3 ho3 hs3' => ?_))
    have hs3 := hs2.call hs3'
    refine pV_eq (show _ = some (frV (t, id)) from rfl) ?_
    have hb := remL_len id L
    refine F39_pc (placed_spec (ho3.reads hs3) (by omega) (t, id) (fun v4 hp4 w4 ho4 hs4' => ?_))
    have hs4 := hs3.call hs4'
    try simp (disch := omega) only [pV_some, pE_some, pU_some, st_add, st_sub, st_mul, st_quo, st_rem, st_eql, st_neq, st_lss, st_leq, st_gtr, st_geq, st_seq, st_sneq, st_beq, st_bneq, st_not, st_neg, st_lenS, st_capS, st_lenT, st_fldA, st_conv, st_pick, st_ext0, st_ext1, st_ext2, st_ext3, st_nilS, st_nilP, st_nilF, st_nilE, st_nilN, st_none, st_some, st_true, st_false, nilC, add_lit, Nat.zero_add, Nat.add_zero, nth0, nth1, nth2, nth3, nth4, nth5, nth6, List.getElem?_cons_succ, List.getElem?_cons_zero, cond_true, cond_false, pSC_orp, pSC_andp, wrap_i64, Bool.not_true, Bool.not_false]
    refine pU_set (b := b) (cs := [.int .i64 now, v]) (ty := 47) (h := hp4 ++ [(b2, ⟨[.int .i64 0, .slice none 0 0], (.t 47)⟩)]) (hs4.re (fun _ => by simp only [cnt_nil, cnt_cons, cnt_append]; omega)) ho4.one [.int .i64 now, v4] (by simp) rfl (fun w5 hs5 _ => ?_)
    have hlw5 : ldV true 2 w5 (.pointer (some ⟨b, 0, none⟩)) = some (wV now v4) := hs5.top.ldw rfl
    try simp (disch := omega) only [pV_some, pE_some, pU_some, st_add, st_sub, st_mul, st_quo, st_rem, st_eql, st_neq, st_lss, st_leq, st_gtr, st_geq, st_seq, st_sneq, st_beq, st_bneq, st_not, st_neg, st_lenS, st_capS, st_lenT, st_fldA, st_conv, st_pick, st_ext0, st_ext1, st_ext2, st_ext3, st_nilS, st_nilP, st_nilF, st_nilE, st_nilN, st_none, st_some, st_true, st_false, nilC, add_lit, Nat.zero_add, Nat.add_zero, nth0, nth1, nth2, nth3, nth4, nth5, nth6, List.getElem?_cons_succ, List.getElem?_cons_zero, cond_true, cond_false, pSC_orp, pSC_andp, wrap_i64, Bool.not_true, Bool.not_false, hlw5]
    refine pU_wV (b := b2) (c0 := .int .i64 0) (c1 := .slice none 0 0) (ty := 47) (h := hp4) (hs5.re (fun _ => by simp only [cnt_nil, cnt_cons, cnt_append]; omega)) ho4.one (fun w6 hs6 hl6 => ?_)
    try simp (disch := omega) only [pV_some, pE_some, pU_some, st_add, st_sub, st_mul, st_quo, st_rem, st_eql, st_neq, st_lss, st_leq, st_gtr, st_geq, st_seq, st_sneq, st_beq, st_bneq, st_not, st_neg, st_lenS, st_capS, st_lenT, st_fldA, st_conv, st_pick, st_ext0, st_ext1, st_ext2, st_ext3, st_nilS, st_nilP, st_nilF, st_nilE, st_nilN, st_none, st_some, st_true, st_false, nilC, add_lit, Nat.zero_add, Nat.add_zero, nth0, nth1, nth2, nth3, nth4, nth5, nth6, List.getElem?_cons_succ, List.getElem?_cons_zero, cond_true, cond_false, pSC_orp, pSC_andp, wrap_i64, Bool.not_true, Bool.not_false, hl6]
    exact k2 h v4 hp4 w6 ho4 (hs6.re (fun _ => by simp only [cnt_nil, cnt_cons, cnt_append]; omega))

theorem cancelR_spec {w : World} {v : Value} {L : List (Int × Int)} (hv : RdF w v L) (hl : L.length ≤ 65536) (now id : Int) {K : Value → World → Prop}
    (k : ∀ v' hp' w', OwnF v' (remL id L) hp' → St w no hp' w' → K (.tuple #[wV now v', .bool (lkL id L).isSome]) w') : F31 (wV now v) (.int .i64 id) w K := by
  unfold F31
  obtain ⟨sa, sc, hve⟩ := hv.slice
  refine pE_boxc (St.nil w no) [.int .i64 now, v] (by subst hve; rfl) (fun b w1 hs1 _ _ => ?_)
  refine pE_boxc hs1 [.int .i64 0, .slice none 0 0] rfl (fun b2 w2 hs2 ht2 _ => ?_)
  have hB : Has w2 b ⟨[.int .i64 now, v], (.t 47)⟩ := hs2.top2
  have hlw : ldV true 2 w2 (.pointer (some ⟨b, 0, none⟩)) = some (wV now v) := hB.ldw rfl
  try simp (disch := omega) only [pV_some, pE_some, pU_some, st_add, st_sub, st_mul, st_quo, st_rem, st_eql, st_neq, st_lss, st_leq, st_gtr, st_geq, st_seq, st_sneq, st_beq, st_bneq, st_not, st_neg, st_lenS, st_capS, st_lenT, st_fldA, st_conv, st_pick, st_ext0, st_ext1, st_ext2, st_ext3, st_nilS, st_nilP, st_nilF, st_nilE, st_nilN, st_none, st_some, st_true, st_false, nilC, add_lit, Nat.zero_add, Nat.add_zero, nth0, nth1, nth2, nth3, nth4, nth5, nth6, List.getElem?_cons_succ, List.getElem?_cons_zero, cond_true, cond_false, pSC_orp, pSC_andp, wrap_i64, Bool.not_true, Bool.not_false, hlw]
  refine F34_pc (whenR_spec (hv.gr hs2.tr) (by omega) now id (fun w3 hs3' => ?_))
  have hs3 := hs2.call hs3'
  have hl1 : ldV false 1 w3 (.pointer (some ⟨b, 1, none⟩)) = some v := (hs3.has (b, ⟨[.int .i64 now, v], (.t 47)⟩) (by simp)).ld 1 1
  try simp (disch := omega) only [pV_some, pE_some, pU_some, st_add, st_sub, st_mul, st_quo, st_rem, st_eql, st_neq, st_lss, st_leq, st_gtr, st_geq, st_seq, st_sneq, st_beq, st_bneq, st_not, st_neg, st_lenS, st_capS, st_lenT, st_fldA, st_conv, st_pick, st_ext0, st_ext1, st_ext2, st_ext3, st_nilS, st_nilP, st_nilF, st_nilE, st_nilN, st_none, st_some, st_true, st_false, nilC, add_lit, Nat.zero_add, Nat.add_zero, nth0, nth1, nth2, nth3, nth4, nth5, nth6, List.getElem?_cons_succ, List.getElem?_cons_zero, cond_true, cond_false, pSC_orp, pSC_andp, wrap_i64, Bool.not_true, Bool.not_false, hl1]
  refine F40_pc (without_spec (hv.gr hs3.tr) (by omega) id (fun v4 hp4 w4 ho4 hs4' => ?_))
  have hs4 := hs3.call hs4'
  try simp (disch := omega) only [pV_some, pE_some, pU_some, st_add, st_sub, st_mul, st_quo, st_rem, st_eql, st_neq, st_lss, st_leq, st_gtr, st_geq, st_seq, st_sneq, st_beq, st_bneq, st_not, st_neg, st_lenS, st_capS, st_lenT, st_fldA, st_conv, st_pick, st_ext0, st_ext1, st_ext2, st_ext3, st_nilS, st_nilP, st_nilF, st_nilE, st_nilN, st_none, st_some, st_true, st_false, nilC, add_lit, Nat.zero_add, Nat.add_zero, nth0, nth1, nth2, nth3, nth4, nth5, nth6, List.getElem?_cons_succ, List.getElem?_cons_zero, cond_true, cond_false, pSC_orp, pSC_andp, wrap_i64, Bool.not_true, Bool.not_false]
  refine pU_set (b := b) (cs := [.int .i64 now, v]) (ty := 47) (h := hp4 ++ [(b2, ⟨[.int .i64 0, .slice none 0 0], (.t 47)⟩)]) (hs4.re (fun _ => by simp only [cnt_nil, cnt_cons, cnt_append]; omega)) ho4.one [.int .i64 now, v4] (by simp) rfl (fun w5 hs5 _ => ?_)
  have hlw5 : ldV true 2 w5 (.pointer (some ⟨b, 0, none⟩)) = some (wV now v4) := hs5.top.ldw rfl
  try simp (disch := omega) only [pV_some, pE_some, pU_some, st_add, st_sub, st_mul, st_quo, st_rem, st_eql, st_neq, st_lss, st_leq, st_gtr, st_geq, st_seq, st_sneq, st_beq, st_bneq, st_not, st_neg, st_lenS, st_capS, st_lenT, st_fldA, st_conv, st_pick, st_ext0, st_ext1, st_ext2, st_ext3, st_nilS, st_nilP, st_nilF, st_nilE, st_nilN, st_none, st_some, st_true, st_false, nilC, add_lit, Nat.zero_add, Nat.add_zero, nth0, nth1, nth2, nth3, nth4, nth5, nth6, List.getElem?_cons_succ, List.getElem?_cons_zero, cond_true, cond_false, pSC_orp, pSC_andp, wrap_i64, Bool.not_true, Bool.not_false, hlw5]
  refine pU_wV (b := b2) (c0 := .int .i64 0) (c1 := .slice none 0 0) (ty := 47) (h := hp4) (hs5.re (fun _ => by simp only [cnt_nil, cnt_cons, cnt_append]; omega)) ho4.one (fun w6 hs6 hl6 => ?_)
  try simp (disch := omega) only [pV_some, pE_some, pU_some, st_add, st_sub, st_mul, st_quo, st_rem, st_eql, st_neq, st_lss, st_leq, st_gtr, st_geq, st_seq, st_sneq, st_beq, st_bneq, st_not, st_neg, st_lenS, st_capS, st_lenT, st_fldA, st_conv, st_pick, st_ext0, st_ext1, st_ext2, st_ext3, st_nilS, st_nilP, st_nilF, st_nilE, st_nilN, st_none, st_some, st_true, st_false, nilC, add_lit, Nat.zero_add, Nat.add_zero, nth0, nth1, nth2, nth3, nth4, nth5, nth6, List.getElem?_cons_succ, List.getElem?_cons_zero, cond_true, cond_false, pSC_orp, pSC_andp, wrap_i64, Bool.not_true, Bool.not_false, hl6]
  exact k v4 hp4 w6 ho4 (hs6.re (fun _ => by simp only [cnt_nil, cnt_cons, cnt_append]; omega))

theorem upTo_snoc {t : Int} {L : List (Int × Int)} {i : Nat} {e : Int × Int} (he : L[i]? = some e) : upTo t (L.take (i + 1)) = upTo t (L.take i) ++ (if e.1 ≤ t then [e] else []) ∧ above t (L.take (i + 1)) = above t (L.take i) ++ (if e.1 ≤ t then [] else [e]) := by
  rw [take_snoc he]
  unfold upTo above
  rw [List.filter_append, List.filter_append]
  by_cases h : e.1 ≤ t
  · have h2 : ¬ t < e.1 := by omega
    simp [h, h2]
  · have h2 : t < e.1 := by omega
    simp [h, h2]
theorem upTo_len (t : Int) (L : List (Int × Int)) : (upTo t L).length ≤ L.length := List.length_filter_le ..
theorem above_len (t : Int) (L : List (Int × Int)) : (above t L).length ≤ L.length := List.length_filter_le ..

theorem advanceR_spec {w : World} {v : Value} {L : List (Int × Int)} (hv : RdF w v L) (hl : L.length ≤ 65536) (now to : Int) {K : Value → World → Prop}
    (k1 : to < now ∨ 1099511627776 < to → ∀ w', St w no [] w' → K (.tuple #[wV now v, .slice none 0 0, .int .i64 2]) w')
    (k2 : now ≤ to ∧ to ≤ 1099511627776 → ∀ v' u' hp' hq' w', OwnF v' (above to L) hp' → OwnF u' (upTo to L) hq' → St w no (hp' ++ hq') w' → K (.tuple #[wV to v', u', .int .i64 0]) w') : F32 (wV now v) (.int .i64 to) w K := by
  unfold F32
  obtain ⟨sa, sc, hve⟩ := hv.slice
  refine pE_boxc (St.nil w no) [.int .i64 now, v] (by subst hve; rfl) (fun b w1 hs1 _ _ => ?_)
  refine pE_boxc hs1 [.int .i64 0, .slice none 0 0] rfl (fun b2 w2 hs2 ht2 _ => ?_)
  have hB : Has w2 b ⟨[.int .i64 now, v], (.t 47)⟩ := hs2.top2
  have hl0 : ldV false 1 w2 (.pointer (some ⟨b, 0, none⟩)) = some (.int .i64 now) := hB.ld 0 1
  have hlw : ldV true 2 w2 (.pointer (some ⟨b, 0, none⟩)) = some (wV now v) := hB.ldw rfl
  try simp (disch := omega) only [pV_some, pE_some, pU_some, st_add, st_sub, st_mul, st_quo, st_rem, st_eql, st_neq, st_lss, st_leq, st_gtr, st_geq, st_seq, st_sneq, st_beq, st_bneq, st_not, st_neg, st_lenS, st_capS, st_lenT, st_fldA, st_conv, st_pick, st_ext0, st_ext1, st_ext2, st_ext3, st_nilS, st_nilP, st_nilF, st_nilE, st_nilN, st_none, st_some, st_true, st_false, nilC, add_lit, Nat.zero_add, Nat.add_zero, nth0, nth1, nth2, nth3, nth4, nth5, nth6, List.getElem?_cons_succ, List.getElem?_cons_zero, cond_true, cond_false, pSC_orp, pSC_andp, wrap_i64, Bool.not_true, Bool.not_false, hl0, hlw]
  refine pIf_of (fun h => ?_) (fun h => ?_)
  · have h : to < now ∨ 1099511627776 < to := by simpa using h
    refine pU_wV hs2 hv.one (fun w3 hs3 hl3 => ?_)
    try simp (disch := omega) only [pV_some, pE_some, pU_some, st_add, st_sub, st_mul, st_quo, st_rem, st_eql, st_neq, st_lss, st_leq, st_gtr, st_geq, st_seq, st_sneq, st_beq, st_bneq, st_not, st_neg, st_lenS, st_capS, st_lenT, st_fldA, st_conv, st_pick, st_ext0, st_ext1, st_ext2, st_ext3, st_nilS, st_nilP, st_nilF, st_nilE, st_nilN, st_none, st_some, st_true, st_false, nilC, add_lit, Nat.zero_add, Nat.add_zero, nth0, nth1, nth2, nth3, nth4, nth5, nth6, List.getElem?_cons_succ, List.getElem?_cons_zero, cond_true, cond_false, pSC_orp, pSC_andp, wrap_i64, Bool.not_true, Bool.not_false, hl3]
    exact k1 h w3 (hs3.re (fun _ => by simp only [cnt_nil, cnt_cons, cnt_append]; omega))
  · have h : now ≤ to ∧ to ≤ 1099511627776 := by simp at h; omega
    have k2 := k2 h
    refine pLoop_up (I := fun i vs w' => ∃ u1 v1 hq1 hp1, vs = [u1, v1, .int .i64 (i : Nat)] ∧ OwnF u1 (upTo to (L.take i)) hq1 ∧ OwnF v1 (above to (L.take i)) hp1 ∧ St w no (hq1 ++ (hp1 ++ [(b2, ⟨[.int .i64 0, .slice none 0 0], (.t 47)⟩), (b, ⟨[.int .i64 now, v], (.t 47)⟩)])) w') L.length 0 (Nat.zero_le _) ⟨_, _, [], [], rfl, ownS_nil _ _, ownS_nil _ _, hs2⟩ ?_
    rintro i vs w3 hi ⟨u1, v1, hq1, hp1, rfl, ho1, ho2, hs3⟩ go hgo
    have hl1 : ldV false 1 w3 (.pointer (some ⟨b, 1, none⟩)) = some v := (hs3.has (b, ⟨[.int .i64 now, v], (.t 47)⟩) (by simp)).ld 1 1
    try simp (disch := omega) only [pV_some, pE_some, pU_some, st_add, st_sub, st_mul, st_quo, st_rem, st_eql, st_neq, st_lss, st_leq, st_gtr, st_geq, st_seq, st_sneq, st_beq, st_bneq, st_not, st_neg, st_lenS, st_capS, st_lenT, st_fldA, st_conv, st_pick, st_ext0, st_ext1, st_ext2, st_ext3, st_nilS, st_nilP, st_nilF, st_nilE, st_nilN, st_none, st_some, st_true, st_false, nilC, add_lit, Nat.zero_add, Nat.add_zero, nth0, nth1, nth2, nth3, nth4, nth5, nth6, List.getElem?_cons_succ, List.getElem?_cons_zero, cond_true, cond_false, pSC_orp, pSC_andp, wrap_i64, Bool.not_true, Bool.not_false, hl1, hv.len]
    refine pIf_of (fun hlt => ?_) (fun hlt => ?_)
    · have hlt : i < L.length := by simpa using hlt
      have hx := List.getElem?_eq_getElem hlt
      obtain ⟨ad, i1, c1⟩ := RdC.fat (hv.gr hs3.tr) hx (x := i) rfl
      obtain ⟨e1, e2⟩ := upTo_snoc (t := to) hx
      have b1 := upTo_len to (L.take i)
      have b2' := above_len to (L.take i)
      rw [List.length_take] at b1 b2'
      try simp (disch := omega) only [pV_some, pE_some, pU_some, st_add, st_sub, st_mul, st_quo, st_rem, st_eql, st_neq, st_lss, st_leq, st_gtr, st_geq, st_seq, st_sneq, st_beq, st_bneq, st_not, st_neg, st_lenS, st_capS, st_lenT, st_fldA, st_conv, st_pick, st_ext0, st_ext1, st_ext2, st_ext3, st_nilS, st_nilP, st_nilF, st_nilE, st_nilN, st_none, st_some, st_true, st_false, nilC, add_lit, Nat.zero_add, Nat.add_zero, nth0, nth1, nth2, nth3, nth4, nth5, nth6, List.getElem?_cons_succ, List.getElem?_cons_zero, cond_true, cond_false, pSC_orp, pSC_andp, wrap_i64, Bool.not_true, Bool.not_false, i1, c1.fld (j := 0) rfl, fr_ld c1]
      refine pJoin_id ?_
      refine pIf_of (fun h => ?_) (fun h => ?_)
      · have h : L[i].1 ≤ to := by simpa using h
        rw [if_pos h] at e1 e2
        refine app_fr ho1 hs3 (by omega) (fun v4 hp4 w4 ho4 hs4 => ?_)
        try simp (disch := omega) only [pV_some, pE_some, pU_some, st_add, st_sub, st_mul, st_quo, st_rem, st_eql, st_neq, st_lss, st_leq, st_gtr, st_geq, st_seq, st_sneq, st_beq, st_bneq, st_not, st_neg, st_lenS, st_capS, st_lenT, st_fldA, st_conv, st_pick, st_ext0, st_ext1, st_ext2, st_ext3, st_nilS, st_nilP, st_nilF, st_nilE, st_nilN, st_none, st_some, st_true, st_false, nilC, add_lit, Nat.zero_add, Nat.add_zero, nth0, nth1, nth2, nth3, nth4, nth5, nth6, List.getElem?_cons_succ, List.getElem?_cons_zero, cond_true, cond_false, pSC_orp, pSC_andp, wrap_i64, Bool.not_true, Bool.not_false]
        exact hgo _ _ hlt ⟨v4, v1, hp4, hp1, by simp, by rw [e1]; exact ho4, by rw [e2, List.append_nil]; exact ho2, hs4⟩
      · have h : ¬ L[i].1 ≤ to := by simpa using h
        rw [if_neg h] at e1 e2
        refine app_fr ho2 (h := hq1 ++ [(b2, ⟨[.int .i64 0, .slice none 0 0], (.t 47)⟩), (b, ⟨[.int .i64 now, v], (.t 47)⟩)]) (hs3.re (fun _ => by simp only [cnt_nil, cnt_cons, cnt_append]; omega)) (by omega) (fun v4 hp4 w4 ho4 hs4 => ?_)
        try simp (disch := omega) only [pV_some, pE_some, pU_some, st_add, st_sub, st_mul, st_quo, st_rem, st_eql, st_neq, st_lss, st_leq, st_gtr, st_geq, st_seq, st_sneq, st_beq, st_bneq, st_not, st_neg, st_lenS, st_capS, st_lenT, st_fldA, st_conv, st_pick, st_ext0, st_ext1, st_ext2, st_ext3, st_nilS, st_nilP, st_nilF, st_nilE, st_nilN, st_none, st_some, st_true, st_false, nilC, add_lit, Nat.zero_add, Nat.add_zero, nth0, nth1, nth2, nth3, nth4, nth5, nth6, List.getElem?_cons_succ, List.getElem?_cons_zero, cond_true, cond_false, pSC_orp, pSC_andp, wrap_i64, Bool.not_true, Bool.not_false]
        exact hgo _ _ hlt ⟨u1, v4, hq1, hp4, by simp, by rw [e1, List.append_nil]; exact ho1, by rw [e2]; exact ho4, hs4.re (fun _ => by simp only [cnt_nil, cnt_cons, cnt_append]; omega)⟩
    · obtain rfl : i = L.length := by simp at hlt; omega
      rw [List.take_length] at ho1 ho2
      obtain ⟨a1, c1, rfl, _⟩ := ho2.slice
      refine pV_eq (show _ = some (wV to (.slice a1 _ c1)) from rfl) ?_
      refine pU_wV (b := b2) (c0 := .int .i64 0) (c1 := .slice none 0 0) (ty := 47) (h := hq1 ++ (hp1 ++ [(b, ⟨[.int .i64 now, v], (.t 47)⟩)])) (hs3.re (fun _ => by simp only [cnt_nil, cnt_cons, cnt_append]; omega)) ho2.one (fun w4 hs4 hl4 => ?_)
      try simp (disch := omega) only [pV_some, pE_some, pU_some, st_add, st_sub, st_mul, st_quo, st_rem, st_eql, st_neq, st_lss, st_leq, st_gtr, st_geq, st_seq, st_sneq, st_beq, st_bneq, st_not, st_neg, st_lenS, st_capS, st_lenT, st_fldA, st_conv, st_pick, st_ext0, st_ext1, st_ext2, st_ext3, st_nilS, st_nilP, st_nilF, st_nilE, st_nilN, st_none, st_some, st_true, st_false, nilC, add_lit, Nat.zero_add, Nat.add_zero, nth0, nth1, nth2, nth3, nth4, nth5, nth6, List.getElem?_cons_succ, List.getElem?_cons_zero, cond_true, cond_false, pSC_orp, pSC_andp, wrap_i64, Bool.not_true, Bool.not_false, hl4]
      exact k2 _ u1 hp1 hq1 w4 ho2 ho1 (hs4.re (fun _ => by simp only [cnt_nil, cnt_cons, cnt_append]; omega))
end Go.Proofs.Ytbbjljhbiaeadaa
