/- script: seals. -/
import Derived.Test.YtcghhhjklihpkaaSbF
set_option linter.unusedSimpArgs false
set_option linter.unusedVariables false
namespace Go.Proofs.Ytcghhhjklihpkaa
open Go.Bk Go.RowKit

/-- A seal's head and inside; its whole. -/
def inner (kd : Nat) (b : List Nat) : List Nat := [66, 75, kd, 1] ++ numTop b.length 4 4 ++ b
def tail4 (s : Nat) : List Nat := [s % 256, s / 256 % 256, s / 65536 % 256, s / 16777216 % 256]
def sealed (kd : Nat) (b : List Nat) : List Nat := inner kd b ++ tail4 (4294967295 - sumB (inner kd b))
theorem inner_len (kd : Nat) (b : List Nat) : (inner kd b).length = b.length + 8 := by simp [inner, numTop_len]; omega
theorem sealed_len (kd : Nat) (b : List Nat) : (sealed kd b).length = b.length + 12 := by simp [sealed, inner_len, tail4]
theorem numTop_lt (x n i : Nat) : ∀ y ∈ numTop x n i, y < 256 := by
  intro y hy
  obtain ⟨j, _, rfl⟩ := List.mem_map.1 hy
  omega
theorem inner_lt {kd : Nat} {b : List Nat} (hk : kd < 256) (hb : ∀ x ∈ b, x < 256) : ∀ x ∈ inner kd b, x < 256 := by
  intro x hx
  simp only [inner, List.mem_append, List.mem_cons, List.not_mem_nil, or_false] at hx
  rcases hx with ((h | h | h | h) | h) | h
  · omega
  · omega
  · omega
  · omega
  · exact numTop_lt _ _ _ x h
  · exact hb x h
theorem sealed_lt {kd : Nat} {b : List Nat} (hk : kd < 256) (hb : ∀ x ∈ b, x < 256) : ∀ x ∈ sealed kd b, x < 256 := by
  intro x hx
  rcases List.mem_append.1 hx with h | h
  · exact inner_lt hk hb x h
  · simp only [tail4, List.mem_cons, List.not_mem_nil, or_false] at h
    omega

/-- Bytes made out of nothing. -/
theorem mk_bys {w0 w : World} {M : Nat → Prop} {h : HP} {vs : List Value} (cs : List Nat) (hcs : vs = bys cs) (hb : cs.length ≤ 2147483647) (hs : St w0 M h w) {K : Value → World → Prop}
    (k : ∀ v hp w', OwnB v cs hp → St w0 M (hp ++ h) w' → K v w') : pE (mkE 5 1 vs w) K := by
  subst hcs
  refine pE_mkc hs (bys cs) (bys_cells cs) ?_ (fun b w1 hs1 ht1 _ => ?_)
  · intro v hv
    obtain ⟨x, _, rfl⟩ := List.mem_map.1 hv
    rfl
  · refine k _ [(b, ⟨bys cs, 5⟩)] w1 ⟨by simp [bys], .inr ⟨b, cs.length, [], by rw [bys_len], Nat.le_refl _, by simp [maxLen]; omega, by simp [bys], by simp⟩⟩ hs1

theorem seal_spec {w : World} {v : Value} {l : List Nat} (hv : RdB w v l) (hl : l.length ≤ 70368744177664) (kd : Nat) (hk : kd < 256) (hb : ∀ x ∈ l, x < 256) {K : Value → World → Prop}
    (k1 : 4194304 < l.length → K (.tuple #[.slice none 0 0, .int .i64 1]) w)
    (k2 : l.length ≤ 4194304 → ∀ v' hp w', OwnB v' (sealed kd l) hp → St w no hp w' → K (.tuple #[v', .int .i64 0]) w') : F40 (.int .u8 kd) v w K := by
  unfold F40
  simp (disch := omega) only [pV_some, pE_some, pU_some, st_add, st_sub, st_mul, st_quo, st_rem, st_eql, st_neq, st_lss, st_leq, st_gtr, st_geq, st_seq, st_sneq, st_beq, st_bneq, st_not, st_neg, st_lenS, st_capS, st_lenT, st_fldA, st_conv, st_pick, st_ext0, st_ext1, st_ext2, st_ext3, st_nilS, st_nilP, st_nilF, st_nilE, st_nilN, st_none, st_some, st_true, st_false, nilC, add_lit, Nat.zero_add, Nat.add_zero, nth0, nth1, nth2, nth3, nth4, nth5, nth6, List.getElem?_cons_succ, List.getElem?_cons_zero, cond_true, cond_false, pSC_orp, pSC_andp, wrap_i64, Bool.not_true, Bool.not_false, hv.len]
  refine pIf_of (fun h => k1 (by simp at h; omega)) (fun h => ?_)
  have h : l.length ≤ 4194304 := by simp at h; omega
  refine mk_bys [66, 75, kd, 1] rfl (by simp) (St.nil w no) (fun v1 hp1 w1 ho1 hs1 => ?_)
  simp (disch := omega) only [pV_some, pE_some, pU_some, st_add, st_sub, st_mul, st_quo, st_rem, st_eql, st_neq, st_lss, st_leq, st_gtr, st_geq, st_seq, st_sneq, st_beq, st_bneq, st_not, st_neg, st_lenS, st_capS, st_lenT, st_fldA, st_conv, st_pick, st_ext0, st_ext1, st_ext2, st_ext3, st_nilS, st_nilP, st_nilF, st_nilE, st_nilN, st_none, st_some, st_true, st_false, nilC, add_lit, Nat.zero_add, Nat.add_zero, nth0, nth1, nth2, nth3, nth4, nth5, nth6, List.getElem?_cons_succ, List.getElem?_cons_zero, cond_true, cond_false, pSC_orp, pSC_andp, wrap_i64, Bool.not_true, Bool.not_false, hv.len, wrap_u64]
  rw [Nat.mod_eq_of_lt (show l.length < 18446744073709551616 by omega)]
  refine F51_pc (big_spec l.length 4 (by omega) (fun v2 hp2 w2 ho2 hs2 => ?_))
  have hs3 := hs1.call hs2
  refine append_bys ho1 (h := hp2) (hs3.re (fun _ => by simp only [cnt_nil, cnt_cons, cnt_append]; omega)) (ho2.reads (hs2.re (fun _ => by simp only [cnt_nil, cnt_cons, cnt_append]; omega)) (h := [])) (by simp [numTop_len]) (fun v3 hp3 w3 ho3 hs3 => ?_)
  refine append_bys ho3 (h := hp2) (hs3.re (fun _ => by simp only [cnt_nil, cnt_cons, cnt_append]; omega)) (hv.gr hs3.tr) (by simp [numTop_len]; omega) (fun v4 hp4 w4 ho4 hs4 => ?_)
  have hr4 : RdB w4 v4 (inner kd l) := ho4.reads hs4
  refine F54_pc (sumA_spec hr4 (by rw [inner_len]; omega) (inner_lt hk hb) ?_ (sumB_lt _))
  simp only [st_conv, pV_some, wrap_u8]
  have s8 : binV .shr (.int .u32 ((4294967295 - sumB (inner kd l) : Nat) : Int)) (.int .u64 8) = some (.int .u32 (((4294967295 - sumB (inner kd l)) / 2 ^ 8 : Nat) : Int)) := st_shr (b := 8) (by decide)
  have s16 : binV .shr (.int .u32 ((4294967295 - sumB (inner kd l) : Nat) : Int)) (.int .u64 16) = some (.int .u32 (((4294967295 - sumB (inner kd l)) / 2 ^ 16 : Nat) : Int)) := st_shr (b := 16) (by decide)
  have s24 : binV .shr (.int .u32 ((4294967295 - sumB (inner kd l) : Nat) : Int)) (.int .u64 24) = some (.int .u32 (((4294967295 - sumB (inner kd l)) / 2 ^ 24 : Nat) : Int)) := st_shr (b := 24) (by decide)
  simp only [s8, s16, s24, st_conv, pV_some, wrap_u8]
  refine app_bys (tail4 (4294967295 - sumB (inner kd l))) rfl ho4 (h := hp2) (hs4.re (fun _ => by simp only [cnt_nil, cnt_cons, cnt_append]; omega)) (by rw [show ([66, 75, kd, 1] ++ numTop l.length 4 4 ++ l) = inner kd l from rfl, inner_len]; simp [tail4]; omega) (fun v5 hp5 w5 ho5 hs5 => ?_)
  exact k2 h v5 hp5 w5 ho5 (hs5.re (fun _ => by simp only [cnt_nil, cnt_cons, cnt_append]; omega))

theorem refseal_spec {w : World} {v : Value} {l : List Nat} (hv : RdB w v l) (hl : l.length ≤ 70368744177664) (kd : Nat) (hk : kd < 256) (hb : ∀ x ∈ l, x < 256) {K : Value → World → Prop}
    (k1 : 4194304 < l.length → K (.tuple #[.slice none 0 0, .int .i64 1]) w)
    (k2 : l.length ≤ 4194304 → ∀ v' hp w', OwnB v' (sealed kd l) hp → St w no hp w' → K (.tuple #[v', .int .i64 0]) w') : F42 (.int .u8 kd) v w K := by
  unfold F42
  simp (disch := omega) only [pV_some, pE_some, pU_some, st_add, st_sub, st_mul, st_quo, st_rem, st_eql, st_neq, st_lss, st_leq, st_gtr, st_geq, st_seq, st_sneq, st_beq, st_bneq, st_not, st_neg, st_lenS, st_capS, st_lenT, st_fldA, st_conv, st_pick, st_ext0, st_ext1, st_ext2, st_ext3, st_nilS, st_nilP, st_nilF, st_nilE, st_nilN, st_none, st_some, st_true, st_false, nilC, add_lit, Nat.zero_add, Nat.add_zero, nth0, nth1, nth2, nth3, nth4, nth5, nth6, List.getElem?_cons_succ, List.getElem?_cons_zero, cond_true, cond_false, pSC_orp, pSC_andp, wrap_i64, Bool.not_true, Bool.not_false, hv.len]
  refine pIf_of (fun h => k1 (by simp at h; omega)) (fun h => ?_)
  have h : l.length ≤ 4194304 := by simp at h; omega
  refine mk_bys [66, 75, kd, 1] rfl (by simp) (St.nil w no) (fun v1 hp1 w1 ho1 hs1 => ?_)
  simp (disch := omega) only [pV_some, pE_some, pU_some, st_add, st_sub, st_mul, st_quo, st_rem, st_eql, st_neq, st_lss, st_leq, st_gtr, st_geq, st_seq, st_sneq, st_beq, st_bneq, st_not, st_neg, st_lenS, st_capS, st_lenT, st_fldA, st_conv, st_pick, st_ext0, st_ext1, st_ext2, st_ext3, st_nilS, st_nilP, st_nilF, st_nilE, st_nilN, st_none, st_some, st_true, st_false, nilC, add_lit, Nat.zero_add, Nat.add_zero, nth0, nth1, nth2, nth3, nth4, nth5, nth6, List.getElem?_cons_succ, List.getElem?_cons_zero, cond_true, cond_false, pSC_orp, pSC_andp, wrap_i64, Bool.not_true, Bool.not_false, hv.len, wrap_u64]
  rw [Nat.mod_eq_of_lt (show l.length < 18446744073709551616 by omega)]
  refine F55_pc (number_spec l.length 4 (by omega) (fun v2 hp2 w2 ho2 hs2 => ?_))
  have hs3 := hs1.call hs2
  refine append_bys ho1 (h := hp2) (hs3.re (fun _ => by simp only [cnt_nil, cnt_cons, cnt_append]; omega)) (ho2.reads (hs2.re (fun _ => by simp only [cnt_nil, cnt_cons, cnt_append]; omega)) (h := [])) (by simp [numTop_len]) (fun v3 hp3 w3 ho3 hs3 => ?_)
  refine append_bys ho3 (h := hp2) (hs3.re (fun _ => by simp only [cnt_nil, cnt_cons, cnt_append]; omega)) (hv.gr hs3.tr) (by simp [numTop_len]; omega) (fun v4 hp4 w4 ho4 hs4 => ?_)
  have hr4 : RdB w4 v4 (inner kd l) := ho4.reads hs4
  refine F57_pc (refsum_spec hr4 (by rw [inner_len]; omega) (inner_lt hk hb) ?_)
  refine pLoop_up (I := fun i vs w' => ∃ v hp, vs = [v, .int .i64 (i : Nat)] ∧ OwnB v (inner kd l ++ (tail4 (4294967295 - sumB (inner kd l))).take i) hp ∧ St w no hp w') 4 0 (by omega) ⟨v4, hp4, rfl, by rw [List.take_zero, List.append_nil]; exact ho4, hs4.re (fun _ => by simp only [cnt_nil, cnt_cons, cnt_append]; omega)⟩ ?_
  rintro i vs w5 hi ⟨v5, hp5, rfl, ho5, hs5⟩ go hgo
  simp (disch := omega) only [pV_some, pE_some, pU_some, st_add, st_sub, st_mul, st_quo, st_rem, st_eql, st_neq, st_lss, st_leq, st_gtr, st_geq, st_seq, st_sneq, st_beq, st_bneq, st_not, st_neg, st_lenS, st_capS, st_lenT, st_fldA, st_conv, st_pick, st_ext0, st_ext1, st_ext2, st_ext3, st_nilS, st_nilP, st_nilF, st_nilE, st_nilN, st_none, st_some, st_true, st_false, nilC, add_lit, Nat.zero_add, Nat.add_zero, nth0, nth1, nth2, nth3, nth4, nth5, nth6, List.getElem?_cons_succ, List.getElem?_cons_zero, cond_true, cond_false, pSC_orp, pSC_andp, wrap_i64, Bool.not_true, Bool.not_false]
  refine pIf_of (fun h4 => ?_) (fun h4 => ?_)
  · have h4 : i < 4 := by simp at h4; omega
    have e8 : (8 : Int) * (i : Int) = ((8 * i : Nat) : Int) := by omega
    rw [e8]
    simp (disch := omega) only [pV_some, pE_some, pU_some, st_add, st_sub, st_mul, st_quo, st_rem, st_eql, st_neq, st_lss, st_leq, st_gtr, st_geq, st_seq, st_sneq, st_beq, st_bneq, st_not, st_neg, st_lenS, st_capS, st_lenT, st_fldA, st_conv, st_pick, st_ext0, st_ext1, st_ext2, st_ext3, st_nilS, st_nilP, st_nilF, st_nilE, st_nilN, st_none, st_some, st_true, st_false, nilC, add_lit, Nat.zero_add, Nat.add_zero, nth0, nth1, nth2, nth3, nth4, nth5, nth6, List.getElem?_cons_succ, List.getElem?_cons_zero, cond_true, cond_false, pSC_orp, pSC_andp, wrap_i64, Bool.not_true, Bool.not_false, st_shr (k := .u32) (k' := .i64) (a := 4294967295 - sumB (inner kd l)) (b := 8 * i) (by simp [IntKind.bits]; omega), wrap_u8]
    refine app_bys [(4294967295 - sumB (inner kd l)) / 2 ^ (8 * i) % 256] rfl ho5 (h := []) (by simpa using hs5) (by rw [List.length_append, inner_len, List.length_take]; simp; omega) (fun v6 hp6 w6 ho6 hs6 => ?_)
    refine hgo _ _ h4 ⟨v6, hp6, by simp, ?_, by simpa using hs6⟩
    have e : (tail4 (4294967295 - sumB (inner kd l))).take (i + 1) = (tail4 (4294967295 - sumB (inner kd l))).take i ++ [(4294967295 - sumB (inner kd l)) / 2 ^ (8 * i) % 256] := by
      match i, h4 with
      | 0, _ => simp [tail4]
      | 1, _ => simp [tail4]
      | 2, _ => simp [tail4]
      | 3, _ => simp [tail4]
    rw [e, ← List.append_assoc]
    exact ho6
  · obtain rfl : i = 4 := by simp at h4; omega
    exact k2 h v5 hp5 w5 (by simpa [tail4, sealed] using ho5) hs5
end Go.Proofs.Ytcghhhjklihpkaa
