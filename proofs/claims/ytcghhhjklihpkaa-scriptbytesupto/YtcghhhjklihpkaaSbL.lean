/- script: Decode, the program's and the document's. -/
import Derived.Test.YtcghhhjklihpkaaSbK
set_option linter.unusedSimpArgs false
set_option linter.unusedVariables false
namespace Go.Proofs.Ytcghhhjklihpkaa
open Go.Bk Go.RowKit

theorem mul8 {a : Nat} (h : a < 72057594037927936) : binV .mul (.int .u64 a) (.int .u64 256) = some (.int .u64 ((a * 256 : Nat) : Int)) := by
  rw [st_mul, show (a : Int) * 256 = ((a * 256 : Nat) : Int) by omega, wrap_u64, Nat.mod_eq_of_lt (by omega)]
theorem add8 {a b : Nat} (h : a < 72057594037927936) (hb : b < 256) : binV .add (.int .u64 ((a * 256 : Nat) : Int)) (.int .u64 b) = some (.int .u64 ((a * 256 + b : Nat) : Int)) := by
  rw [st_add, show ((a * 256 : Nat) : Int) + (b : Int) = ((a * 256 + b : Nat) : Int) by omega, wrap_u64, Nat.mod_eq_of_lt (by omega)]

theorem at_spec {w : World} {v : Value} {l : List Nat} (hv : RdB w v l) (hb : ∀ c ∈ l, c < 256) (p n : Nat) (hn : n ≤ 8) (hp : p ≤ 4611686018427387904) (hl : l.length ≤ 4611686018427387904) {x : Int} (hx : x = p) {K : Value → World → Prop}
    (k : K (.int .u64 ((atN l p n : Nat) : Int)) w) : F31 v (.int .i64 x) (.int .i64 n) w K := by
  subst hx
  unfold F31
  refine pLoop_up (I := fun i vs w' => vs = [.int .u64 ((atN l p i : Nat) : Int), .int .i64 ((p + i : Nat) : Int)] ∧ w' = w) n 0 (Nat.zero_le _) ⟨rfl, rfl⟩ ?_
  rintro i vs w1 hi ⟨rfl, rfl⟩ go hgo
  try simp (disch := omega) only [pV_some, pE_some, pU_some, st_add, st_sub, st_mul, st_quo, st_rem, st_eql, st_neq, st_lss, st_leq, st_gtr, st_geq, st_seq, st_sneq, st_beq, st_bneq, st_not, st_neg, st_lenS, st_capS, st_lenT, st_fldA, st_conv, st_pick, st_ext0, st_ext1, st_ext2, st_ext3, st_nilS, st_nilP, st_nilF, st_nilE, st_nilN, st_none, st_some, st_true, st_false, nilC, add_lit, Nat.zero_add, Nat.add_zero, nth0, nth1, nth2, nth3, nth4, nth5, nth6, List.getElem?_cons_succ, List.getElem?_cons_zero, cond_true, cond_false, pSC_orp, pSC_andp, wrap_i64, Bool.not_true, Bool.not_false]
  refine pIf_of (fun hlt => ?_) (fun hlt => ?_)
  · have hlt : i < n := by simp at hlt; omega
    refine pJoin_id ?_
    have h56 : atN l p i < 72057594037927936 := by
      have h1 := atN_lt l hb p i
      have h3 : 256 ^ i ≤ 256 ^ 7 := Nat.pow_le_pow_right (by omega) (by omega)
      have h4 : (256 : Nat) ^ 7 = 72057594037927936 := by decide
      omega
    have ew1 : IntKind.u64.wrap (((atN l p i : Nat) : Int) * 256) = ((atN l p i * 256 : Nat) : Int) := by
      rw [show ((atN l p i : Nat) : Int) * 256 = ((atN l p i * 256 : Nat) : Int) by omega, wrap_u64, Nat.mod_eq_of_lt (by omega)]
    try simp (disch := omega) only [pV_some, pE_some, pU_some, st_add, st_sub, st_mul, st_quo, st_rem, st_eql, st_neq, st_lss, st_leq, st_gtr, st_geq, st_seq, st_sneq, st_beq, st_bneq, st_not, st_neg, st_lenS, st_capS, st_lenT, st_fldA, st_conv, st_pick, st_ext0, st_ext1, st_ext2, st_ext3, st_nilS, st_nilP, st_nilF, st_nilE, st_nilN, st_none, st_some, st_true, st_false, nilC, add_lit, Nat.zero_add, Nat.add_zero, nth0, nth1, nth2, nth3, nth4, nth5, nth6, List.getElem?_cons_succ, List.getElem?_cons_zero, cond_true, cond_false, pSC_orp, pSC_andp, wrap_i64, Bool.not_true, Bool.not_false, ew1, hv.len]
    refine pIf_of (fun hlt2 => ?_) (fun hlt2 => ?_)
    · have hlt2 : p + i < l.length := by simp at hlt2; omega
      have hx := List.getElem?_eq_getElem hlt2
      obtain ⟨ad, i1, c1⟩ := hv.at1 (bys_at hx) (x := ((p + i : Nat) : Int)) rfl
      have hc := hb _ (List.getElem_mem hlt2)
      try simp (disch := omega) only [pV_some, pE_some, pU_some, st_add, st_sub, st_mul, st_quo, st_rem, st_eql, st_neq, st_lss, st_leq, st_gtr, st_geq, st_seq, st_sneq, st_beq, st_bneq, st_not, st_neg, st_lenS, st_capS, st_lenT, st_fldA, st_conv, st_pick, st_ext0, st_ext1, st_ext2, st_ext3, st_nilS, st_nilP, st_nilF, st_nilE, st_nilN, st_none, st_some, st_true, st_false, nilC, add_lit, Nat.zero_add, Nat.add_zero, nth0, nth1, nth2, nth3, nth4, nth5, nth6, List.getElem?_cons_succ, List.getElem?_cons_zero, cond_true, cond_false, pSC_orp, pSC_andp, wrap_i64, Bool.not_true, Bool.not_false, i1, ld1r c1, wrap_u64]
      rw [Nat.mod_eq_of_lt (show l[p + i] < 18446744073709551616 by omega)]
      have ew2 : IntKind.u64.wrap (((atN l p i * 256 : Nat) : Int) + ((l[p + i] : Nat) : Int)) = ((atN l p i * 256 + l[p + i] : Nat) : Int) := by
        rw [show ((atN l p i * 256 : Nat) : Int) + ((l[p + i] : Nat) : Int) = ((atN l p i * 256 + l[p + i] : Nat) : Int) by omega, wrap_u64, Nat.mod_eq_of_lt (by omega)]
      try simp (disch := omega) only [pV_some, pE_some, pU_some, st_add, st_sub, st_mul, st_quo, st_rem, st_eql, st_neq, st_lss, st_leq, st_gtr, st_geq, st_seq, st_sneq, st_beq, st_bneq, st_not, st_neg, st_lenS, st_capS, st_lenT, st_fldA, st_conv, st_pick, st_ext0, st_ext1, st_ext2, st_ext3, st_nilS, st_nilP, st_nilF, st_nilE, st_nilN, st_none, st_some, st_true, st_false, nilC, add_lit, Nat.zero_add, Nat.add_zero, nth0, nth1, nth2, nth3, nth4, nth5, nth6, List.getElem?_cons_succ, List.getElem?_cons_zero, cond_true, cond_false, pSC_orp, pSC_andp, wrap_i64, Bool.not_true, Bool.not_false, ew2]
      refine hgo _ _ hlt ⟨?_, rfl⟩
      rw [atN, hx]
      simp; omega
    · have hx : l[p + i]? = none := by
        rw [List.getElem?_eq_none_iff]
        simp at hlt2; omega
      try simp (disch := omega) only [pV_some, pE_some, pU_some, st_add, st_sub, st_mul, st_quo, st_rem, st_eql, st_neq, st_lss, st_leq, st_gtr, st_geq, st_seq, st_sneq, st_beq, st_bneq, st_not, st_neg, st_lenS, st_capS, st_lenT, st_fldA, st_conv, st_pick, st_ext0, st_ext1, st_ext2, st_ext3, st_nilS, st_nilP, st_nilF, st_nilE, st_nilN, st_none, st_some, st_true, st_false, nilC, add_lit, Nat.zero_add, Nat.add_zero, nth0, nth1, nth2, nth3, nth4, nth5, nth6, List.getElem?_cons_succ, List.getElem?_cons_zero, cond_true, cond_false, pSC_orp, pSC_andp, wrap_i64, Bool.not_true, Bool.not_false]
      refine hgo _ _ hlt ⟨?_, rfl⟩
      rw [atN, hx]
      simp; omega
  · obtain rfl : i = n := by simp at hlt; omega
    exact k

theorem lenD_len (b : List Nat) : ∀ (k p : Nat), 8 * (lenD k b p).1.length ≤ b.length - p + 7
  | 0, p => by simp [lenD]
  | k + 1, p => by
    rw [lenD]
    split
    · have h1 := lenD_len b k (p + 8)
      have h2 : (lenD k b (p + 8)).1.length = 0 ∨ p + 8 < b.length := by
        by_cases h : p + 8 < b.length
        · exact .inr h
        · left
          cases k with
          | zero => rfl
          | succ k => rw [lenD, if_neg h]; rfl
      simp only [List.length_cons]
      omega
    · simp
theorem lenD_next (b : List Nat) : ∀ (k p : Nat), p ≤ (lenD k b p).2 ∧ (p ≤ b.length + 28 → (lenD k b p).2 ≤ b.length + 28)
  | 0, p => by simp [lenD]
  | k + 1, p => by
    rw [lenD]
    split
    · have h1 := lenD_next b k (p + 8)
      exact ⟨by simp only; omega, fun _ => h1.2 (by omega)⟩
    · exact ⟨Nat.le_refl _, fun h => h⟩

theorem sgw {n : Nat} (h : n < 18446744073709551616) : convV .i64 (.int .u64 (n : Int)) = some (.int .i64 (sg n)) := by rw [st_conv, sg_wrap h]

theorem list_spec {w0 : World} {v : Value} {b : List Nat} (hv : RdB w0 v b) (hb : ∀ c ∈ b, c < 256) (hl : b.length ≤ 4194304) {K : Value → World → Prop}
    (k : ∀ v' hp w', OwnL v' (lenient b) hp → St w0 no hp w' → K v' w') : F32 v w0 K := by
  unfold F32
  have h8 : ∀ p, atN b p 8 < 18446744073709551616 := fun p => by have := atN_lt b hb p 8; simpa using this
  have h4 : ∀ p, atN b p 4 < 4294967296 := fun p => by have := atN_lt b hb p 4; simpa using this
  refine F31_pc (at_spec hv hb 0 4 (by omega) (by omega) (by omega) rfl ?_)
  refine ⟨fun m vs w => ∃ (vo : Value) (ps : List (In × Value)) (hp : HP) (p i : Nat), vs = [vo, .int .i64 (p : Nat), .int .u64 (i : Nat)] ∧ OwnIns vo ps hp ∧ St w0 no hp w ∧ i ≤ atN b 0 4 ∧ p ≤ b.length + 28 ∧ ps.length ≤ p ∧ insOf ps ++ lenL (atN b 0 4 - i) b p = lenient b ∧ m = b.length + 28 - p, b.length + 28 - 4, ⟨_, [], [], 4, 0, rfl, ownIns_nil, St.nil _ _, by omega, by omega, by simp, by simp [insOf, lenient], rfl⟩, ?_⟩
  rintro m vs w ⟨vo, ps, hp, p, i, rfl, ho, hs, hi, hp28, hpl, he, rfl⟩
  have hn := h4 0
  try simp (disch := omega) only [pV_some, pE_some, pU_some, st_add, st_sub, st_mul, st_quo, st_rem, st_eql, st_neq, st_lss, st_leq, st_gtr, st_geq, st_seq, st_sneq, st_beq, st_bneq, st_not, st_neg, st_lenS, st_capS, st_lenT, st_fldA, st_conv, st_pick, st_ext0, st_ext1, st_ext2, st_ext3, st_nilS, st_nilP, st_nilF, st_nilE, st_nilN, st_none, st_some, st_true, st_false, nilC, add_lit, Nat.zero_add, Nat.add_zero, nth0, nth1, nth2, nth3, nth4, nth5, nth6, List.getElem?_cons_succ, List.getElem?_cons_zero, cond_true, cond_false, pSC_orp, pSC_andp, wrap_i64, Bool.not_true, Bool.not_false, hv.len]
  refine pIf_of (fun hlt => ?_) (fun hlt => ?_)
  · have hlt : i < atN b 0 4 ∧ p < b.length := by simp at hlt; omega
    obtain ⟨q, hq⟩ : ∃ q, atN b 0 4 - i = q + 1 := ⟨atN b 0 4 - i - 1, by omega⟩
    rw [hq, lenL, if_pos hlt.2] at he
    have hv1 := hv.gr hs.tr
    refine F31_pc (at_spec hv1 hb p 8 (by omega) (by omega) (by omega) rfl ?_)
    try simp (disch := omega) only [pV_some, pE_some, pU_some, st_add, st_sub, st_mul, st_quo, st_rem, st_eql, st_neq, st_lss, st_leq, st_gtr, st_geq, st_seq, st_sneq, st_beq, st_bneq, st_not, st_neg, st_lenS, st_capS, st_lenT, st_fldA, st_conv, st_pick, st_ext0, st_ext1, st_ext2, st_ext3, st_nilS, st_nilP, st_nilF, st_nilE, st_nilN, st_none, st_some, st_true, st_false, nilC, add_lit, Nat.zero_add, Nat.add_zero, nth0, nth1, nth2, nth3, nth4, nth5, nth6, List.getElem?_cons_succ, List.getElem?_cons_zero, cond_true, cond_false, pSC_orp, pSC_andp, wrap_i64, Bool.not_true, Bool.not_false, sgw (h8 p)]
    refine F31_pc (at_spec hv1 hb (p + 8) 8 (by omega) (by omega) (by omega) (by omega) ?_)
    try simp (disch := omega) only [pV_some, pE_some, pU_some, st_add, st_sub, st_mul, st_quo, st_rem, st_eql, st_neq, st_lss, st_leq, st_gtr, st_geq, st_seq, st_sneq, st_beq, st_bneq, st_not, st_neg, st_lenS, st_capS, st_lenT, st_fldA, st_conv, st_pick, st_ext0, st_ext1, st_ext2, st_ext3, st_nilS, st_nilP, st_nilF, st_nilE, st_nilN, st_none, st_some, st_true, st_false, nilC, add_lit, Nat.zero_add, Nat.add_zero, nth0, nth1, nth2, nth3, nth4, nth5, nth6, List.getElem?_cons_succ, List.getElem?_cons_zero, cond_true, cond_false, pSC_orp, pSC_andp, wrap_i64, Bool.not_true, Bool.not_false, sgw (h8 (p + 8))]
    refine F31_pc (at_spec hv1 hb (p + 16) 8 (by omega) (by omega) (by omega) (by omega) ?_)
    try simp (disch := omega) only [pV_some, pE_some, pU_some, st_add, st_sub, st_mul, st_quo, st_rem, st_eql, st_neq, st_lss, st_leq, st_gtr, st_geq, st_seq, st_sneq, st_beq, st_bneq, st_not, st_neg, st_lenS, st_capS, st_lenT, st_fldA, st_conv, st_pick, st_ext0, st_ext1, st_ext2, st_ext3, st_nilS, st_nilP, st_nilF, st_nilE, st_nilN, st_none, st_some, st_true, st_false, nilC, add_lit, Nat.zero_add, Nat.add_zero, nth0, nth1, nth2, nth3, nth4, nth5, nth6, List.getElem?_cons_succ, List.getElem?_cons_zero, cond_true, cond_false, pSC_orp, pSC_andp, wrap_i64, Bool.not_true, Bool.not_false, sgw (h8 (p + 16))]
    refine pV_eq (show _ = some (.agg #[.int .i64 (sg (atN b p 8)), .int .i64 (sg (atN b (p + 8) 8)), .int .i64 (sg (atN b (p + 16) 8)), .slice none 0 0]) from rfl) ?_
    refine pE_boxc hs [.int .i64 0, .int .i64 0, .int .i64 0, .slice none 0 0] rfl (fun b1 w1 hs1 _ _ => ?_)
    refine pU_st hs1 [.int .i64 (sg (atN b p 8)), .int .i64 (sg (atN b (p + 8) 8)), .int .i64 (sg (atN b (p + 16) 8)), .slice none 0 0] rfl (by simp [Value.cells]) (by
      intro u hu
      have hu : u = .int .i64 (sg (atN b p 8)) ∨ u = .int .i64 (sg (atN b (p + 8) 8)) ∨ u = .int .i64 (sg (atN b (p + 16) 8)) ∨ u = .slice none 0 0 := by simpa [Value.cells] using hu
      rcases hu with rfl | rfl | rfl | rfl <;> rfl) rfl (fun w2 hs2 _ => ?_)
    have hv2 := hv.gr hs2.tr
    refine F31_pc (at_spec hv2 hb (p + 24) 4 (by omega) (by omega) (by omega) (by omega) ?_)
    have hk := h4 (p + 24)
    refine ⟨fun m' vs w => ∃ (s : Value) (d : List Int) (kd : HP) (p' j : Nat), vs = [.int .i64 (p' : Nat), .int .u64 (j : Nat)] ∧ OwnI s d kd ∧ St w0 no ((b1, ⟨[.int .i64 (sg (atN b p 8)), .int .i64 (sg (atN b (p + 8) 8)), .int .i64 (sg (atN b (p + 16) 8)), s], 42⟩) :: (kd ++ hp)) w ∧ j ≤ atN b (p + 24) 4 ∧ p' ≤ b.length + 28 ∧ p + 28 ≤ p' ∧ d.length ≤ p' ∧ (d ++ (lenD (atN b (p + 24) 4 - j) b p').1, (lenD (atN b (p + 24) 4 - j) b p').2) = lenD (atN b (p + 24) 4) b (p + 28) ∧ m' = b.length + 28 - p', b.length + 28 - (p + 28), ⟨.slice none 0 0, [], [], p + 28, 0, by simp, ownS_nil _ _, by simpa using hs2, by omega, by omega, by omega, by simp, by simp, rfl⟩, ?_⟩
    rintro m' vs w3 ⟨s, d, kd, p', j, rfl, hod, hs3, hj, hp'28, hpp, hdl, hed, rfl⟩
    try simp (disch := omega) only [pV_some, pE_some, pU_some, st_add, st_sub, st_mul, st_quo, st_rem, st_eql, st_neq, st_lss, st_leq, st_gtr, st_geq, st_seq, st_sneq, st_beq, st_bneq, st_not, st_neg, st_lenS, st_capS, st_lenT, st_fldA, st_conv, st_pick, st_ext0, st_ext1, st_ext2, st_ext3, st_nilS, st_nilP, st_nilF, st_nilE, st_nilN, st_none, st_some, st_true, st_false, nilC, add_lit, Nat.zero_add, Nat.add_zero, nth0, nth1, nth2, nth3, nth4, nth5, nth6, List.getElem?_cons_succ, List.getElem?_cons_zero, cond_true, cond_false, pSC_orp, pSC_andp, wrap_i64, Bool.not_true, Bool.not_false, hv.len]
    refine pIf_of (fun hlt2 => ?_) (fun hlt2 => ?_)
    · have hlt2 : j < atN b (p + 24) 4 ∧ p' < b.length := by simp at hlt2; omega
      obtain ⟨q', hq'⟩ : ∃ q', atN b (p + 24) 4 - j = q' + 1 := ⟨atN b (p + 24) 4 - j - 1, by omega⟩
      rw [hq', lenD, if_pos hlt2.2] at hed
      refine pDraw_st hs3 (fun w4 hs4 _ => ?_)
      have hB4 := hs4.top
      try simp (disch := omega) only [pV_some, pE_some, pU_some, st_add, st_sub, st_mul, st_quo, st_rem, st_eql, st_neq, st_lss, st_leq, st_gtr, st_geq, st_seq, st_sneq, st_beq, st_bneq, st_not, st_neg, st_lenS, st_capS, st_lenT, st_fldA, st_conv, st_pick, st_ext0, st_ext1, st_ext2, st_ext3, st_nilS, st_nilP, st_nilF, st_nilE, st_nilN, st_none, st_some, st_true, st_false, nilC, add_lit, Nat.zero_add, Nat.add_zero, nth0, nth1, nth2, nth3, nth4, nth5, nth6, List.getElem?_cons_succ, List.getElem?_cons_zero, cond_true, cond_false, pSC_orp, pSC_andp, wrap_i64, Bool.not_true, Bool.not_false, hB4.ld]
      unfold pKept
      refine F31_pc (at_spec (hv.gr hs4.tr) hb p' 8 (by omega) (by omega) (by omega) rfl ?_)
      refine ⟨⟨⟨_, hB4.ld 3 1, hB4.ld 3 1⟩, trivial⟩, ?_⟩
      try simp (disch := omega) only [pV_some, pE_some, pU_some, st_add, st_sub, st_mul, st_quo, st_rem, st_eql, st_neq, st_lss, st_leq, st_gtr, st_geq, st_seq, st_sneq, st_beq, st_bneq, st_not, st_neg, st_lenS, st_capS, st_lenT, st_fldA, st_conv, st_pick, st_ext0, st_ext1, st_ext2, st_ext3, st_nilS, st_nilP, st_nilF, st_nilE, st_nilN, st_none, st_some, st_true, st_false, nilC, add_lit, Nat.zero_add, Nat.add_zero, nth0, nth1, nth2, nth3, nth4, nth5, nth6, List.getElem?_cons_succ, List.getElem?_cons_zero, cond_true, cond_false, pSC_orp, pSC_andp, wrap_i64, Bool.not_true, Bool.not_false, sgw (h8 p')]
      have hs5 : St w0 no (kd ++ ((b1, ⟨[.int .i64 (sg (atN b p 8)), .int .i64 (sg (atN b (p + 8) 8)), .int .i64 (sg (atN b (p + 16) 8)), s], 42⟩) :: hp)) w4 := hs4.re (fun _ => by simp only [cnt_nil, cnt_cons, cnt_append]; omega)
      refine pE_mkc hs5 [.int .i64 (sg (atN b p' 8))] rfl (by simp [Value.cells]) (fun b6 w6 hs6 ht6 _ => ?_)
      have hB6 : Has w6 b1 ⟨[.int .i64 (sg (atN b p 8)), .int .i64 (sg (atN b (p + 8) 8)), .int .i64 (sg (atN b (p + 16) 8)), s], 42⟩ := hs6.has (b1, _) (by simp)
      refine ⟨⟨⟨_, hB4.ld 3 1, hB6.ld 3 1⟩, trivial⟩, ?_⟩
      have hC6 := hs6.top
      refine append_ints (l := [sg (atN b p' 8)]) (h := (b6, ⟨[.int .i64 (sg (atN b p' 8))], 2⟩) :: (b1, ⟨[.int .i64 (sg (atN b p 8)), .int .i64 (sg (atN b (p + 8) 8)), .int .i64 (sg (atN b (p + 16) 8)), s], 42⟩) :: hp) hod (hs6.re (fun _ => by simp only [cnt_nil, cnt_cons, cnt_append]; omega)) ⟨rfl, _, _, rfl, Nat.le_refl _, by simp, fun ad h => ?_⟩ (by simp; omega) (fun v7 kd7 w7 ho7 hs7 => ?_)
      · cases h
        exact hC6.cellsAt 0
      have hs8 : St w0 no ((b1, ⟨[.int .i64 (sg (atN b p 8)), .int .i64 (sg (atN b (p + 8) 8)), .int .i64 (sg (atN b (p + 16) 8)), s], 42⟩) :: (kd7 ++ hp)) w7 := hs7.re (fun _ => by simp only [cnt_nil, cnt_cons, cnt_append]; omega)
      try simp (disch := omega) only [pV_some, pE_some, pU_some, st_add, st_sub, st_mul, st_quo, st_rem, st_eql, st_neq, st_lss, st_leq, st_gtr, st_geq, st_seq, st_sneq, st_beq, st_bneq, st_not, st_neg, st_lenS, st_capS, st_lenT, st_fldA, st_conv, st_pick, st_ext0, st_ext1, st_ext2, st_ext3, st_nilS, st_nilP, st_nilF, st_nilE, st_nilN, st_none, st_some, st_true, st_false, nilC, add_lit, Nat.zero_add, Nat.add_zero, nth0, nth1, nth2, nth3, nth4, nth5, nth6, List.getElem?_cons_succ, List.getElem?_cons_zero, cond_true, cond_false, pSC_orp, pSC_andp, wrap_i64, Bool.not_true, Bool.not_false]
      refine pU_st1 hs8 ho7.one [.int .i64 (sg (atN b p 8)), .int .i64 (sg (atN b (p + 8) 8)), .int .i64 (sg (atN b (p + 16) 8)), v7] (by simp) rfl (fun w9 hs9 _ => ?_)
      have ew : IntKind.u64.wrap ((j : Int) + 1) = ((j + 1 : Nat) : Int) := by
        rw [show (j : Int) + 1 = ((j + 1 : Nat) : Int) by omega, wrap_u64, Nat.mod_eq_of_lt (by omega)]
      try simp (disch := omega) only [pV_some, pE_some, pU_some, st_add, st_sub, st_mul, st_quo, st_rem, st_eql, st_neq, st_lss, st_leq, st_gtr, st_geq, st_seq, st_sneq, st_beq, st_bneq, st_not, st_neg, st_lenS, st_capS, st_lenT, st_fldA, st_conv, st_pick, st_ext0, st_ext1, st_ext2, st_ext3, st_nilS, st_nilP, st_nilF, st_nilE, st_nilN, st_none, st_some, st_true, st_false, nilC, add_lit, Nat.zero_add, Nat.add_zero, nth0, nth1, nth2, nth3, nth4, nth5, nth6, List.getElem?_cons_succ, List.getElem?_cons_zero, cond_true, cond_false, pSC_orp, pSC_andp, wrap_i64, Bool.not_true, Bool.not_false, ew]
      refine ⟨b.length + 28 - (p' + 8), by omega, v7, d ++ [sg (atN b p' 8)], kd7, p' + 8, j + 1, by simp, ho7, hs9, by omega, by omega, by omega, by simp; omega, ?_, rfl⟩
      rw [← hed, show atN b (p + 24) 4 - (j + 1) = q' by omega]
      simp
    · have hfin : (lenD (atN b (p + 24) 4 - j) b p') = ([], p') := by
        by_cases h : p' < b.length
        · have : atN b (p + 24) 4 - j = 0 := by simp at hlt2; omega
          rw [this]; rfl
        · cases hk2 : atN b (p + 24) 4 - j with
          | zero => rfl
          | succ q => rw [lenD, if_neg h]
      rw [hfin] at hed
      simp only [List.append_nil] at hed
      have hB4 := hs3.top
      try simp (disch := omega) only [pV_some, pE_some, pU_some, st_add, st_sub, st_mul, st_quo, st_rem, st_eql, st_neq, st_lss, st_leq, st_gtr, st_geq, st_seq, st_sneq, st_beq, st_bneq, st_not, st_neg, st_lenS, st_capS, st_lenT, st_fldA, st_conv, st_pick, st_ext0, st_ext1, st_ext2, st_ext3, st_nilS, st_nilP, st_nilF, st_nilE, st_nilN, st_none, st_some, st_true, st_false, nilC, add_lit, Nat.zero_add, Nat.add_zero, nth0, nth1, nth2, nth3, nth4, nth5, nth6, List.getElem?_cons_succ, List.getElem?_cons_zero, cond_true, cond_false, pSC_orp, pSC_andp, wrap_i64, Bool.not_true, Bool.not_false, hB4.ldw (sz := 4) rfl]
      obtain ⟨o, inn, hoo, hin, rfl⟩ := ho
      refine more_spec (p := ((⟨sg (atN b p 8), sg (atN b (p + 8) 8), sg (atN b (p + 16) 8), d⟩ : In), s)) (h := (b1, ⟨[.int .i64 (sg (atN b p 8)), .int .i64 (sg (atN b (p + 8) 8)), .int .i64 (sg (atN b (p + 16) 8)), s], 42⟩) :: (kd ++ inn)) hoo (hs3.re (fun _ => by simp only [cnt_nil, cnt_cons, cnt_append]; omega)) hod.one (by omega) (fun v' o' w7 ho7 hs7 => ?_)
      have ew : IntKind.u64.wrap ((i : Int) + 1) = ((i + 1 : Nat) : Int) := by
        rw [show (i : Int) + 1 = ((i + 1 : Nat) : Int) by omega, wrap_u64, Nat.mod_eq_of_lt (by omega)]
      try simp (disch := omega) only [pV_some, pE_some, pU_some, st_add, st_sub, st_mul, st_quo, st_rem, st_eql, st_neq, st_lss, st_leq, st_gtr, st_geq, st_seq, st_sneq, st_beq, st_bneq, st_not, st_neg, st_lenS, st_capS, st_lenT, st_fldA, st_conv, st_pick, st_ext0, st_ext1, st_ext2, st_ext3, st_nilS, st_nilP, st_nilF, st_nilE, st_nilN, st_none, st_some, st_true, st_false, nilC, add_lit, Nat.zero_add, Nat.add_zero, nth0, nth1, nth2, nth3, nth4, nth5, nth6, List.getElem?_cons_succ, List.getElem?_cons_zero, cond_true, cond_false, pSC_orp, pSC_andp, wrap_i64, Bool.not_true, Bool.not_false, ew]
      refine ⟨b.length + 28 - p', by omega, v', ps ++ [((⟨sg (atN b p 8), sg (atN b (p + 8) 8), sg (atN b (p + 16) 8), d⟩ : In), s)], o' ++ (kd ++ inn), p', i + 1, by simp, ⟨o', kd ++ inn, ho7, .snoc hin hod, rfl⟩, hs7.re (fun _ => by simp only [cnt_nil, cnt_cons, cnt_append]; omega), by omega, hp'28, by simp; omega, ?_, rfl⟩
      rw [← he, show atN b 0 4 - (i + 1) = q by omega]
      rw [← hed]
      simp [insOf]
  · have hfin : lenL (atN b 0 4 - i) b p = [] := by
      by_cases h : p < b.length
      · have : atN b 0 4 - i = 0 := by simp at hlt; omega
        rw [this]; rfl
      · cases hk2 : atN b 0 4 - i with
        | zero => rfl
        | succ q => rw [lenL, if_neg h]
    rw [hfin, List.append_nil] at he
    exact k vo hp w ⟨ps, he, ho⟩ hs

/-- What Decode tells. -/
def Dec (l : List Nat) : Nat × List In :=
  if Un 3 l ≠ 0 then (Un 3 l, [])
  else if 65536 < (rd 4 (some (mid l))).1 then (1, [])
  else match strict (mid l) with
    | some x => (0, x)
    | none => (20, [])
theorem ownL_nil : OwnL (.slice none 0 0) [] [] := ⟨[], rfl, ownIns_nil⟩

theorem decode_spec {w : World} {v : Value} {l : List Nat} (hv : RdB w v l) (hl : l.length ≤ 70368744177664) (hb : ∀ x ∈ l, x < 256) {K : Value → World → Prop}
    (k : ∀ v' hp w', OwnL v' (Dec l).2 hp → St w no hp w' → K (.tuple #[v', .int .i64 (Dec l).1]) w') : F15 v w K := by
  unfold F15
  refine F24_pc (unseal_spec hv hl 3 (by omega) hb (fun hu w1 hs1 => ?_) (fun hu v1 hp1 w1 ho1 hs1 => ?_))
  · have e : Dec l = (Un 3 l, []) := by rw [Dec, if_pos hu]
    rw [e] at k
    try simp (disch := omega) only [pV_some, pE_some, pU_some, st_add, st_sub, st_mul, st_quo, st_rem, st_eql, st_neq, st_lss, st_leq, st_gtr, st_geq, st_seq, st_sneq, st_beq, st_bneq, st_not, st_neg, st_lenS, st_capS, st_lenT, st_fldA, st_conv, st_pick, st_ext0, st_ext1, st_ext2, st_ext3, st_nilS, st_nilP, st_nilF, st_nilE, st_nilN, st_none, st_some, st_true, st_false, nilC, add_lit, Nat.zero_add, Nat.add_zero, nth0, nth1, nth2, nth3, nth4, nth5, nth6, List.getElem?_cons_succ, List.getElem?_cons_zero, cond_true, cond_false, pSC_orp, pSC_andp, wrap_i64, Bool.not_true, Bool.not_false]
    refine pIf_of (fun _ => k _ [] w1 ownL_nil hs1) (fun h => by simp at h; omega)
  obtain ⟨hm, hsl⟩ := Un_len hu
  have hmb := mid_lt hb
  have e0 : Dec l = if 65536 < (rd 4 (some (mid l))).1 then (1, []) else match strict (mid l) with
    | some x => (0, x)
    | none => (20, []) := by rw [Dec, if_neg (by omega)]
  try simp (disch := omega) only [pV_some, pE_some, pU_some, st_add, st_sub, st_mul, st_quo, st_rem, st_eql, st_neq, st_lss, st_leq, st_gtr, st_geq, st_seq, st_sneq, st_beq, st_bneq, st_not, st_neg, st_lenS, st_capS, st_lenT, st_fldA, st_conv, st_pick, st_ext0, st_ext1, st_ext2, st_ext3, st_nilS, st_nilP, st_nilF, st_nilE, st_nilN, st_none, st_some, st_true, st_false, nilC, add_lit, Nat.zero_add, Nat.add_zero, nth0, nth1, nth2, nth3, nth4, nth5, nth6, List.getElem?_cons_succ, List.getElem?_cons_zero, cond_true, cond_false, pSC_orp, pSC_andp, wrap_i64, Bool.not_true, Bool.not_false]
  refine pIf_of (fun h => by simp at h) (fun _ => ?_)
  -- a reader
  have reader : ∀ (wa : World) (h : HP) (K' : Value → World → Prop), St w no (hp1 ++ h) wa → (∀ wb b wc, St w no (hp1 ++ h) wb → RrSt wb b (some (mid l)) [] wc → Tr wa no wb → K' (.pointer (some ⟨b, 0, none⟩)) wc) → pCall Try.prog 25 [v1] wa K' := by
    intro wa h K' hsa hk
    refine F25_pc ?_
    unfold F25
    refine F44_pc (bclone_spec (ho1.reads (h := h) hsa) (by omega) (fun v2 hp2 w2 ho2 hs2 => ?_))
    have r2 := ho2.reads (h := []) (hs2.re (fun _ => by simp only [cnt_nil, cnt_cons, cnt_append]; omega))
    refine pV_eq (show _ = some (.agg #[v2, .int .i64 0]) from ?_) ?_
    · obtain ⟨a, n, rfl, _⟩ := OwnS.slice ho2; rfl
    refine pE_boxc (St.nil w2 no) [v2, .int .i64 0] rfl (fun b w3 hs3 _ _ => ?_)
    exact hk w2 b w3 ((hsa.call hs2).re (fun _ => by simp only [cnt_nil, cnt_cons, cnt_append]; omega)) ⟨v2, 0, ⟨rfl, r2, hmb, by omega⟩, hs3⟩ hs2.tr
  refine reader w1 [] _ (hs1.re (fun _ => by simp only [cnt_nil, cnt_cons, cnt_append]; omega)) (fun wb b wc hsb hrr htb => ?_)
  refine F26_pc (rU32_spec hrr (fun w4 hw4 hlt => ?_))
  try simp (disch := omega) only [pV_some, pE_some, pU_some, st_add, st_sub, st_mul, st_quo, st_rem, st_eql, st_neq, st_lss, st_leq, st_gtr, st_geq, st_seq, st_sneq, st_beq, st_bneq, st_not, st_neg, st_lenS, st_capS, st_lenT, st_fldA, st_conv, st_pick, st_ext0, st_ext1, st_ext2, st_ext3, st_nilS, st_nilP, st_nilF, st_nilE, st_nilN, st_none, st_some, st_true, st_false, nilC, add_lit, Nat.zero_add, Nat.add_zero, nth0, nth1, nth2, nth3, nth4, nth5, nth6, List.getElem?_cons_succ, List.getElem?_cons_zero, cond_true, cond_false, pSC_orp, pSC_andp, wrap_i64, Bool.not_true, Bool.not_false]
  have hs4 : St w no (hp1 ++ []) w4 := by
    obtain ⟨v4, f4, _, hs4⟩ := hw4
    exact (hsb.call hs4).re (fun _ => by simp only [cnt_nil, cnt_cons, cnt_append]; omega)
  refine pIf_of (fun h => ?_) (fun h => ?_)
  · have h : 65536 < (rd 4 (some (mid l))).1 := by simp at h; omega
    rw [if_pos h] at e0
    rw [e0] at k
    exact k _ [] w4 ownL_nil (hs4.re (fun _ => by simp only [cnt_nil, cnt_cons, cnt_append]; omega))
  have h : ¬ 65536 < (rd 4 (some (mid l))).1 := by simp at h; omega
  rw [if_neg h] at e0
  refine reader w4 [] _ hs4 (fun wb2 b2 wc2 hsb2 hrr2 htb2 => ?_)
  refine F27_pc (getIns_spec hrr2 (fun v5 hp5 w5 ho5 hw5 => ?_))
  refine F29_pc ?_
  unfold F29
  obtain ⟨v6, f6, hr6, hs6⟩ := hw5
  have hs7 : St w no (hp5 ++ hp1) w5 := (hsb2.call hs6).re (fun _ => by simp only [cnt_nil, cnt_cons, cnt_append]; omega)
  match hg : getList 65536 getIn (some (mid l)) with
  | (x, none) =>
    have e1 : strict (mid l) = none := by rw [strict, hg]
    rw [e1] at e0
    rw [e0] at k
    rw [hg] at hr6
    have hf := hr6.1
    obtain ⟨l6, hv6⟩ := hr6.2
    try simp (disch := omega) only [pV_some, pE_some, pU_some, st_add, st_sub, st_mul, st_quo, st_rem, st_eql, st_neq, st_lss, st_leq, st_gtr, st_geq, st_seq, st_sneq, st_beq, st_bneq, st_not, st_neg, st_lenS, st_capS, st_lenT, st_fldA, st_conv, st_pick, st_ext0, st_ext1, st_ext2, st_ext3, st_nilS, st_nilP, st_nilF, st_nilE, st_nilN, st_none, st_some, st_true, st_false, nilC, add_lit, Nat.zero_add, Nat.add_zero, nth0, nth1, nth2, nth3, nth4, nth5, nth6, List.getElem?_cons_succ, List.getElem?_cons_zero, cond_true, cond_false, pSC_orp, pSC_andp, wrap_i64, Bool.not_true, Bool.not_false, hs6.top.ld, (hv6.len)]
    refine pIf_of (fun h => by simp at h; exact absurd h.1 hf) (fun _ => ?_)
    try simp (disch := omega) only [pV_some, pE_some, pU_some, st_add, st_sub, st_mul, st_quo, st_rem, st_eql, st_neq, st_lss, st_leq, st_gtr, st_geq, st_seq, st_sneq, st_beq, st_bneq, st_not, st_neg, st_lenS, st_capS, st_lenT, st_fldA, st_conv, st_pick, st_ext0, st_ext1, st_ext2, st_ext3, st_nilS, st_nilP, st_nilF, st_nilE, st_nilN, st_none, st_some, st_true, st_false, nilC, add_lit, Nat.zero_add, Nat.add_zero, nth0, nth1, nth2, nth3, nth4, nth5, nth6, List.getElem?_cons_succ, List.getElem?_cons_zero, cond_true, cond_false, pSC_orp, pSC_andp, wrap_i64, Bool.not_true, Bool.not_false, hs6.top.ld]
    refine pIf_of (fun _ => k _ [] w5 ownL_nil (hs7.re (fun _ => by simp only [cnt_nil, cnt_cons, cnt_append]; omega))) (fun h => by simp at h; exact absurd h hf)
  | (x, some []) =>
    have e1 : strict (mid l) = some x := by rw [strict, hg]
    rw [e1] at e0
    rw [e0] at k
    rw [hg] at hr6 ho5
    obtain ⟨rfl, hv6, _⟩ := hr6
    try simp (disch := omega) only [pV_some, pE_some, pU_some, st_add, st_sub, st_mul, st_quo, st_rem, st_eql, st_neq, st_lss, st_leq, st_gtr, st_geq, st_seq, st_sneq, st_beq, st_bneq, st_not, st_neg, st_lenS, st_capS, st_lenT, st_fldA, st_conv, st_pick, st_ext0, st_ext1, st_ext2, st_ext3, st_nilS, st_nilP, st_nilF, st_nilE, st_nilN, st_none, st_some, st_true, st_false, nilC, add_lit, Nat.zero_add, Nat.add_zero, nth0, nth1, nth2, nth3, nth4, nth5, nth6, List.getElem?_cons_succ, List.getElem?_cons_zero, cond_true, cond_false, pSC_orp, pSC_andp, wrap_i64, Bool.not_true, Bool.not_false, hs6.top.ld, hv6.len]
    refine pIf_of (fun h => by simp at h) (fun _ => ?_)
    try simp (disch := omega) only [pV_some, pE_some, pU_some, st_add, st_sub, st_mul, st_quo, st_rem, st_eql, st_neq, st_lss, st_leq, st_gtr, st_geq, st_seq, st_sneq, st_beq, st_bneq, st_not, st_neg, st_lenS, st_capS, st_lenT, st_fldA, st_conv, st_pick, st_ext0, st_ext1, st_ext2, st_ext3, st_nilS, st_nilP, st_nilF, st_nilE, st_nilN, st_none, st_some, st_true, st_false, nilC, add_lit, Nat.zero_add, Nat.add_zero, nth0, nth1, nth2, nth3, nth4, nth5, nth6, List.getElem?_cons_succ, List.getElem?_cons_zero, cond_true, cond_false, pSC_orp, pSC_andp, wrap_i64, Bool.not_true, Bool.not_false, hs6.top.ld]
    refine pIf_of (fun h => by simp at h) (fun _ => ?_)
    exact k v5 hp5 w5 ho5 (hs7.re (fun _ => by simp only [cnt_nil, cnt_cons, cnt_append]; omega))
  | (x, some (c :: t)) =>
    have e1 : strict (mid l) = none := by rw [strict, hg]
    rw [e1] at e0
    rw [e0] at k
    rw [hg] at hr6
    obtain ⟨rfl, hv6, _⟩ := hr6
    try simp (disch := omega) only [pV_some, pE_some, pU_some, st_add, st_sub, st_mul, st_quo, st_rem, st_eql, st_neq, st_lss, st_leq, st_gtr, st_geq, st_seq, st_sneq, st_beq, st_bneq, st_not, st_neg, st_lenS, st_capS, st_lenT, st_fldA, st_conv, st_pick, st_ext0, st_ext1, st_ext2, st_ext3, st_nilS, st_nilP, st_nilF, st_nilE, st_nilN, st_none, st_some, st_true, st_false, nilC, add_lit, Nat.zero_add, Nat.add_zero, nth0, nth1, nth2, nth3, nth4, nth5, nth6, List.getElem?_cons_succ, List.getElem?_cons_zero, cond_true, cond_false, pSC_orp, pSC_andp, wrap_i64, Bool.not_true, Bool.not_false, hs6.top.ld, hv6.len]
    refine pIf_of (fun _ => ?_) (fun h => by simp at h <;> omega)
    try simp (disch := omega) only [pV_some, pE_some, pU_some, st_add, st_sub, st_mul, st_quo, st_rem, st_eql, st_neq, st_lss, st_leq, st_gtr, st_geq, st_seq, st_sneq, st_beq, st_bneq, st_not, st_neg, st_lenS, st_capS, st_lenT, st_fldA, st_conv, st_pick, st_ext0, st_ext1, st_ext2, st_ext3, st_nilS, st_nilP, st_nilF, st_nilE, st_nilN, st_none, st_some, st_true, st_false, nilC, add_lit, Nat.zero_add, Nat.add_zero, nth0, nth1, nth2, nth3, nth4, nth5, nth6, List.getElem?_cons_succ, List.getElem?_cons_zero, cond_true, cond_false, pSC_orp, pSC_andp, wrap_i64, Bool.not_true, Bool.not_false]
    refine pIf_of (fun _ => k _ [] w5 ownL_nil (hs7.re (fun _ => by simp only [cnt_nil, cnt_cons, cnt_append]; omega))) (fun h => by simp at h)

/-- the law's 'same' -/
theorem sameB_spec {w : World} {v u : Value} {l r : List Nat} (hv : RdB w v l) (hu : RdB w u r) (hl : l.length ≤ 70368744177664) {K : Value → World → Prop}
    (k : ∀ w', St w no [] w' → K (.bool (decide (l = r))) w') : F17 v u w K := by
  unfold F17
  try simp (disch := omega) only [pV_some, pE_some, pU_some, st_add, st_sub, st_mul, st_quo, st_rem, st_eql, st_neq, st_lss, st_leq, st_gtr, st_geq, st_seq, st_sneq, st_beq, st_bneq, st_not, st_neg, st_lenS, st_capS, st_lenT, st_fldA, st_conv, st_pick, st_ext0, st_ext1, st_ext2, st_ext3, st_nilS, st_nilP, st_nilF, st_nilE, st_nilN, st_none, st_some, st_true, st_false, nilC, add_lit, Nat.zero_add, Nat.add_zero, nth0, nth1, nth2, nth3, nth4, nth5, nth6, List.getElem?_cons_succ, List.getElem?_cons_zero, cond_true, cond_false, pSC_orp, pSC_andp, wrap_i64, Bool.not_true, Bool.not_false, hv.len, hu.len]
  refine pIf_of (fun h => ?_) (fun h => ?_)
  · have h : l ≠ r := by rintro rfl; simp at h
    rw [show false = decide (l = r) by simp [h]]
    exact k w (St.nil _ _)
  have h : l.length = r.length := by simp at h; omega
  refine pLoop_up (I := fun i vs w' => vs = [.int .i64 (i : Nat)] ∧ l.take i = r.take i ∧ St w no [] w') l.length 0 (Nat.zero_le _) ⟨rfl, rfl, St.nil _ _⟩ ?_
  rintro i vs w7 hi ⟨rfl, he, hs7⟩ go hgo
  try simp (disch := omega) only [pV_some, pE_some, pU_some, st_add, st_sub, st_mul, st_quo, st_rem, st_eql, st_neq, st_lss, st_leq, st_gtr, st_geq, st_seq, st_sneq, st_beq, st_bneq, st_not, st_neg, st_lenS, st_capS, st_lenT, st_fldA, st_conv, st_pick, st_ext0, st_ext1, st_ext2, st_ext3, st_nilS, st_nilP, st_nilF, st_nilE, st_nilN, st_none, st_some, st_true, st_false, nilC, add_lit, Nat.zero_add, Nat.add_zero, nth0, nth1, nth2, nth3, nth4, nth5, nth6, List.getElem?_cons_succ, List.getElem?_cons_zero, cond_true, cond_false, pSC_orp, pSC_andp, wrap_i64, Bool.not_true, Bool.not_false]
  refine pIf_of (fun hlt => ?_) (fun hlt => ?_)
  · have hlt : i < l.length := by simpa using hlt
    refine pDraw_st hs7 (fun w8 hs8 ht8 => ?_)
    have hx := List.getElem?_eq_getElem hlt
    have hy := List.getElem?_eq_getElem (l := r) (i := i) (by omega)
    obtain ⟨a1, i1, c1⟩ := (hv.gr hs8.tr).at1 (bys_at hx) (x := i) rfl
    obtain ⟨a2, i2, c2⟩ := (hu.gr hs8.tr).at1 (bys_at hy) (x := i) rfl
    try simp (disch := omega) only [pV_some, pE_some, pU_some, st_add, st_sub, st_mul, st_quo, st_rem, st_eql, st_neq, st_lss, st_leq, st_gtr, st_geq, st_seq, st_sneq, st_beq, st_bneq, st_not, st_neg, st_lenS, st_capS, st_lenT, st_fldA, st_conv, st_pick, st_ext0, st_ext1, st_ext2, st_ext3, st_nilS, st_nilP, st_nilF, st_nilE, st_nilN, st_none, st_some, st_true, st_false, nilC, add_lit, Nat.zero_add, Nat.add_zero, nth0, nth1, nth2, nth3, nth4, nth5, nth6, List.getElem?_cons_succ, List.getElem?_cons_zero, cond_true, cond_false, pSC_orp, pSC_andp, wrap_i64, Bool.not_true, Bool.not_false, i1, i2, ld1r c1, ld1r c2]
    refine pIf_of (fun h4 => ?_) (fun h4 => ?_)
    · have h : l ≠ r := by rintro rfl; simp at h4
      rw [show false = decide (l = r) by simp [h]]
      exact k w8 hs8
    · refine hgo _ _ hlt ⟨by simp, ?_, hs8⟩
      have h4 : l[i] = r[i]'(by omega) := by simp at h4; omega
      rw [List.take_add_one, List.take_add_one, hx, hy, he, h4]
  · obtain rfl : i = l.length := by simp at hlt; omega
    have h4 : l = r := by
      rw [List.take_length, h, List.take_length] at he
      exact he
    rw [show true = decide (l = r) by simp [h4]]
    exact k w7 hs7
theorem F33_is : @F33 = @F17 := rfl

theorem decref {l : List Nat} (hu : Un 3 l = 0) (hb : ∀ x ∈ l, x < 256) : Dec l = if 4 ≤ (mid l).length ∧ 65536 < atN (mid l) 0 4 then (1, []) else if EncBad (lenient (mid l)) ∨ sealed 3 (encL (lenient (mid l))) ≠ l then (20, []) else (0, lenient (mid l)) := by
  obtain ⟨hm, hsl⟩ := Un_len hu
  have hmb := mid_lt hb
  have e0 : Dec l = if 65536 < (rd 4 (some (mid l))).1 then (1, []) else match strict (mid l) with
    | some x => (0, x)
    | none => (20, []) := by rw [Dec, if_neg (by omega)]
  have e1 : (65536 < (rd 4 (some (mid l))).1) ↔ (4 ≤ (mid l).length ∧ 65536 < atN (mid l) 0 4) := by
    rw [rd]
    split
    · rename_i h
      rw [atN_be (mid l) 0 4 (mid l) [] [] (by simp) rfl h]
      simp [h]
    · rename_i h
      constructor
      · intro h'; simp at h'
      · intro h'; exact absurd h'.1 h
  rw [e0]
  by_cases h1 : 65536 < (rd 4 (some (mid l))).1
  · rw [if_pos h1, if_pos (e1.1 h1)]
  rw [if_neg h1, if_neg (fun h => h1 (e1.2 h))]
  have hn : 4 ≤ (mid l).length → atN (mid l) 0 4 ≤ 65536 := fun h4 => by
    have : ¬ 65536 < atN (mid l) 0 4 := fun h => h1 (e1.2 ⟨h4, h⟩)
    omega
  rw [decode_same hmb hm hn]
  by_cases he : encL (lenient (mid l)) = mid l
  · rw [if_pos he, if_neg]
    rw [he]
    rintro (h | h)
    · rcases h with h | h
      · by_cases h4 : 4 ≤ (mid l).length
        · have := lenL_len (mid l) (atN (mid l) 0 4) 4
          have := hn h4
          unfold lenient at h
          omega
        · have : lenient (mid l) = [] := by
            unfold lenient
            cases atN (mid l) 0 4 with
            | zero => rfl
            | succ n => rw [lenL, if_neg (by omega)]
          rw [this] at h
          simp at h
      · rw [he] at h; omega
    · exact h hsl
  · rw [if_neg he, if_pos]
    right
    intro h
    exact he (sealed_inj (h.trans hsl.symm))

theorem lenL_d (b : List Nat) : ∀ (n p : Nat), ∀ x ∈ lenL n b p, 8 * x.d.length ≤ b.length + 7
  | 0, p, x, hx => by simp [lenL] at hx
  | n + 1, p, x, hx => by
    rw [lenL] at hx
    split at hx
    · simp only [List.mem_cons] at hx
      rcases hx with rfl | hx
      · have := lenD_len b (atN b (p + 24) 4) (p + 28)
        simp only
        omega
      · exact lenL_d b n _ x hx
    · simp at hx

theorem refdecode_spec {w : World} {v : Value} {l : List Nat} (hv : RdB w v l) (hl : l.length ≤ 70368744177664) (hb : ∀ x ∈ l, x < 256) {K : Value → World → Prop}
    (k : ∀ v' hp w', OwnL v' (Dec l).2 hp → St w no hp w' → K (.tuple #[v', .int .i64 (Dec l).1]) w') : F16 v w K := by
  unfold F16
  refine F30_pc (refunseal_spec hv hl 3 (by omega) hb (fun hu w1 hs1 => ?_) (fun hu v1 hp1 w1 ho1 hs1 => ?_))
  · have e : Dec l = (Un 3 l, []) := by rw [Dec, if_pos hu]
    rw [e] at k
    try simp (disch := omega) only [pV_some, pE_some, pU_some, st_add, st_sub, st_mul, st_quo, st_rem, st_eql, st_neq, st_lss, st_leq, st_gtr, st_geq, st_seq, st_sneq, st_beq, st_bneq, st_not, st_neg, st_lenS, st_capS, st_lenT, st_fldA, st_conv, st_pick, st_ext0, st_ext1, st_ext2, st_ext3, st_nilS, st_nilP, st_nilF, st_nilE, st_nilN, st_none, st_some, st_true, st_false, nilC, add_lit, Nat.zero_add, Nat.add_zero, nth0, nth1, nth2, nth3, nth4, nth5, nth6, List.getElem?_cons_succ, List.getElem?_cons_zero, cond_true, cond_false, pSC_orp, pSC_andp, wrap_i64, Bool.not_true, Bool.not_false]
    refine pIf_of (fun _ => k _ [] w1 ownL_nil hs1) (fun h => by simp at h; omega)
  obtain ⟨hm, hsl⟩ := Un_len hu
  have hmb := mid_lt hb
  have e0 := decref hu hb
  have r1 := ho1.reads (h := []) (hs1.re (fun _ => by simp only [cnt_nil, cnt_cons, cnt_append]; omega))
  try simp (disch := omega) only [pV_some, pE_some, pU_some, st_add, st_sub, st_mul, st_quo, st_rem, st_eql, st_neq, st_lss, st_leq, st_gtr, st_geq, st_seq, st_sneq, st_beq, st_bneq, st_not, st_neg, st_lenS, st_capS, st_lenT, st_fldA, st_conv, st_pick, st_ext0, st_ext1, st_ext2, st_ext3, st_nilS, st_nilP, st_nilF, st_nilE, st_nilN, st_none, st_some, st_true, st_false, nilC, add_lit, Nat.zero_add, Nat.add_zero, nth0, nth1, nth2, nth3, nth4, nth5, nth6, List.getElem?_cons_succ, List.getElem?_cons_zero, cond_true, cond_false, pSC_orp, pSC_andp, wrap_i64, Bool.not_true, Bool.not_false, r1.len]
  refine pIf_of (fun h => by simp at h) (fun _ => ?_)
  have rest : ¬ (4 ≤ (mid l).length ∧ 65536 < atN (mid l) 0 4) → pCall Try.prog 32 [v1] w1 fun t26_10 w =>
      pCall Try.prog 22 [t26_10] w fun t29_11 w =>
      pV (extV t29_11 0) fun t30_12 =>
      pV (extV t29_11 1) fun t31_13 =>
      pV (binV .neq t31_13 (.int .i64 0)) fun t33_14 =>
      pSC false t33_14 w (fun J2 =>
        pCall Try.prog 33 [t30_12, v] w fun t37_15 w =>
        pV (unV .not t37_15) fun t38_16 =>
        J2 t38_16 w)
      (fun t39_17 w =>
      pIf t39_17
      (K (.tuple #[(.slice none 0 0), (.int .i64 20)]) w)
      (K (.tuple #[t26_10, (.int .i64 0)]) w)) := by
    intro hc
    rw [if_neg hc] at e0
    refine F32_pc (list_spec r1 hmb hm (fun v2 hp2 w2 ho2 hs2 => ?_))
    obtain ⟨ps, hps, ho2'⟩ := ho2
    have hs3 := hs1.call hs2
    have hi2 : InsR w2 v2 ps := ho2'.reads (r := hp1) hs3
    have hB : ∀ p ∈ ps, p.1.d.length ≤ 1048576 := by
      intro p hp
      have : p.1 ∈ lenient (mid l) := by rw [← hps]; exact List.mem_map.2 ⟨p, hp, rfl⟩
      have := lenL_d (mid l) _ _ _ this
      omega
    refine F22_pc (refencode_spec hi2 hB (fun hbad w4 hs4 => ?_) (fun hgood v4 hp4 w4 ho4 hs4 => ?_))
    · rw [hps] at hbad
      rw [if_pos (.inl hbad)] at e0
      rw [e0] at k
      try simp (disch := omega) only [pV_some, pE_some, pU_some, st_add, st_sub, st_mul, st_quo, st_rem, st_eql, st_neq, st_lss, st_leq, st_gtr, st_geq, st_seq, st_sneq, st_beq, st_bneq, st_not, st_neg, st_lenS, st_capS, st_lenT, st_fldA, st_conv, st_pick, st_ext0, st_ext1, st_ext2, st_ext3, st_nilS, st_nilP, st_nilF, st_nilE, st_nilN, st_none, st_some, st_true, st_false, nilC, add_lit, Nat.zero_add, Nat.add_zero, nth0, nth1, nth2, nth3, nth4, nth5, nth6, List.getElem?_cons_succ, List.getElem?_cons_zero, cond_true, cond_false, pSC_orp, pSC_andp, wrap_i64, Bool.not_true, Bool.not_false]
      refine pSC_or_t (by simp) ?_
      try simp (disch := omega) only [pV_some, pE_some, pU_some, st_add, st_sub, st_mul, st_quo, st_rem, st_eql, st_neq, st_lss, st_leq, st_gtr, st_geq, st_seq, st_sneq, st_beq, st_bneq, st_not, st_neg, st_lenS, st_capS, st_lenT, st_fldA, st_conv, st_pick, st_ext0, st_ext1, st_ext2, st_ext3, st_nilS, st_nilP, st_nilF, st_nilE, st_nilN, st_none, st_some, st_true, st_false, nilC, add_lit, Nat.zero_add, Nat.add_zero, nth0, nth1, nth2, nth3, nth4, nth5, nth6, List.getElem?_cons_succ, List.getElem?_cons_zero, cond_true, cond_false, pSC_orp, pSC_andp, wrap_i64, Bool.not_true, Bool.not_false]
      exact k _ [] w4 ownL_nil ((hs3.call hs4).re (fun _ => by simp only [cnt_nil, cnt_cons, cnt_append]; omega))
    · rw [hps] at hgood ho4
      have hs5 := hs3.call hs4
      try simp (disch := omega) only [pV_some, pE_some, pU_some, st_add, st_sub, st_mul, st_quo, st_rem, st_eql, st_neq, st_lss, st_leq, st_gtr, st_geq, st_seq, st_sneq, st_beq, st_bneq, st_not, st_neg, st_lenS, st_capS, st_lenT, st_fldA, st_conv, st_pick, st_ext0, st_ext1, st_ext2, st_ext3, st_nilS, st_nilP, st_nilF, st_nilE, st_nilN, st_none, st_some, st_true, st_false, nilC, add_lit, Nat.zero_add, Nat.add_zero, nth0, nth1, nth2, nth3, nth4, nth5, nth6, List.getElem?_cons_succ, List.getElem?_cons_zero, cond_true, cond_false, pSC_orp, pSC_andp, wrap_i64, Bool.not_true, Bool.not_false]
      refine pSC_or_f (by simp) ?_
      refine F33_pc ?_
      rw [F33_is]
      refine sameB_spec (ho4.reads (h := hp2 ++ hp1) (hs5.re (fun _ => by simp only [cnt_nil, cnt_cons, cnt_append]; omega))) (hv.gr hs5.tr) ?_ (fun w6 hs6 => ?_)
      · rw [sealed_len]
        have : ¬ 4194304 < (encL (lenient (mid l))).length := fun h => hgood (.inr h)
        omega
      have hs7 := hs5.call hs6
      try simp (disch := omega) only [pV_some, pE_some, pU_some, st_add, st_sub, st_mul, st_quo, st_rem, st_eql, st_neq, st_lss, st_leq, st_gtr, st_geq, st_seq, st_sneq, st_beq, st_bneq, st_not, st_neg, st_lenS, st_capS, st_lenT, st_fldA, st_conv, st_pick, st_ext0, st_ext1, st_ext2, st_ext3, st_nilS, st_nilP, st_nilF, st_nilE, st_nilN, st_none, st_some, st_true, st_false, nilC, add_lit, Nat.zero_add, Nat.add_zero, nth0, nth1, nth2, nth3, nth4, nth5, nth6, List.getElem?_cons_succ, List.getElem?_cons_zero, cond_true, cond_false, pSC_orp, pSC_andp, wrap_i64, Bool.not_true, Bool.not_false]
      refine pIf_of (fun h => ?_) (fun h => ?_)
      · have h : sealed 3 (encL (lenient (mid l))) ≠ l := by simpa using h
        rw [if_pos (.inr h)] at e0
        rw [e0] at k
        exact k _ [] w6 ownL_nil (hs7.re (fun _ => by simp only [cnt_nil, cnt_cons, cnt_append]; omega))
      · have h : sealed 3 (encL (lenient (mid l))) = l := by simpa using h
        rw [if_neg (by rintro (h' | h'); exact hgood h'; exact h' h)] at e0
        rw [e0] at k
        exact k _ hp2 w6 ⟨ps, hps, ho2'⟩ (hs7.re (fun _ => by simp only [cnt_nil, cnt_cons, cnt_append]; omega))
  by_cases h4 : 4 ≤ (mid l).length
  · refine pSC_and_t (by simp; omega) ?_
    refine F31_pc (at_spec r1 hmb 0 4 (by omega) (by omega) (by omega) rfl ?_)
    try simp (disch := omega) only [pV_some, pE_some, pU_some, st_add, st_sub, st_mul, st_quo, st_rem, st_eql, st_neq, st_lss, st_leq, st_gtr, st_geq, st_seq, st_sneq, st_beq, st_bneq, st_not, st_neg, st_lenS, st_capS, st_lenT, st_fldA, st_conv, st_pick, st_ext0, st_ext1, st_ext2, st_ext3, st_nilS, st_nilP, st_nilF, st_nilE, st_nilN, st_none, st_some, st_true, st_false, nilC, add_lit, Nat.zero_add, Nat.add_zero, nth0, nth1, nth2, nth3, nth4, nth5, nth6, List.getElem?_cons_succ, List.getElem?_cons_zero, cond_true, cond_false, pSC_orp, pSC_andp, wrap_i64, Bool.not_true, Bool.not_false]
    refine pIf_of (fun h => ?_) (fun h => ?_)
    · have h : 65536 < atN (mid l) 0 4 := by simp at h; omega
      rw [if_pos ⟨h4, h⟩] at e0
      rw [e0] at k
      exact k _ [] w1 ownL_nil (hs1.re (fun _ => by simp only [cnt_nil, cnt_cons, cnt_append]; omega))
    · have h : ¬ 65536 < atN (mid l) 0 4 := by simp at h; omega
      have := rest (fun h' => h h'.2)
      exact this
  · refine pSC_and_f (by simp; omega) ?_
    try simp (disch := omega) only [pV_some, pE_some, pU_some, st_add, st_sub, st_mul, st_quo, st_rem, st_eql, st_neq, st_lss, st_leq, st_gtr, st_geq, st_seq, st_sneq, st_beq, st_bneq, st_not, st_neg, st_lenS, st_capS, st_lenT, st_fldA, st_conv, st_pick, st_ext0, st_ext1, st_ext2, st_ext3, st_nilS, st_nilP, st_nilF, st_nilE, st_nilN, st_none, st_some, st_true, st_false, nilC, add_lit, Nat.zero_add, Nat.add_zero, nth0, nth1, nth2, nth3, nth4, nth5, nth6, List.getElem?_cons_succ, List.getElem?_cons_zero, cond_true, cond_false, pSC_orp, pSC_andp, wrap_i64, Bool.not_true, Bool.not_false]
    exact rest (fun h' => h4 h'.1)
end Go.Proofs.Ytcghhhjklihpkaa
