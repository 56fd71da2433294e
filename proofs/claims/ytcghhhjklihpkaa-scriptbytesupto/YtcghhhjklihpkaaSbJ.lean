/- script: the codec's reader. -/
import Derived.Test.YtcghhhjklihpkaaSbI
set_option linter.unusedSimpArgs false
set_option linter.unusedVariables false
namespace Go.Proofs.Ytcghhhjklihpkaa
open Go.Bk Go.RowKit

theorem shl8 {a : Nat} (h : a < 72057594037927936) : binV .shl (.int .u64 a) (.int .u64 8) = some (.int .u64 ((a * 256 : Nat) : Int)) := by
  have h1 : binV .shl (.int .u64 a) (.int .u64 8) = some (.int .u64 (IntKind.u64.wrap ((a : Int) * 256))) := rfl
  rw [h1, show (a : Int) * 256 = ((a * 256 : Nat) : Int) by omega, wrap_u64, Nat.mod_eq_of_lt (by omega)]
theorem or8 {a b : Nat} (ha : a < 72057594037927936) (hb : b < 256) : binV .or (.int .u64 ((a * 256 : Nat) : Int)) (.int .u64 b) = some (.int .u64 ((a * 256 + b : Nat) : Int)) := by
  have h : binV .or (.int .u64 ((a * 256 : Nat) : Int)) (.int .u64 b) = some (.int .u64 (IntKind.u64.wrap ((BitVec.ofInt 64 ((a * 256 : Nat) : Int) ||| BitVec.ofInt 64 (b : Int)).toNat : Int))) := rfl
  have e : a * 256 ||| b = a * 256 + b := by
    have := Nat.two_pow_add_eq_or_of_lt (i := 8) (b := b) (by simpa using hb) a
    rw [Nat.mul_comm a 256]
    exact this.symm
  rw [h, bv_or, wrap_u64, Nat.mod_eq_of_lt (a := a * 256) (by omega), Nat.mod_eq_of_lt (a := b) (by omega), e, Nat.mod_eq_of_lt (by omega)]

abbrev RT : TypeId := 72
/-- What a reader holds: the bytes that are left; none: a fault. -/
def Rr (w0 : World) (s : RS) (v : Value) (f : Int) : Prop :=
  match s with
  | some l => f = 0 ∧ RdB w0 v l ∧ (∀ c ∈ l, c < 256) ∧ l.length ≤ 2147483647
  | none => f ≠ 0 ∧ ∃ l, RdB w0 v l
def RrSt (w0 : World) (b : Nat) (s : RS) (h : HP) (w : World) : Prop :=
  ∃ v f, Rr w0 s v f ∧ St w0 no ((b, ⟨[v, .int .i64 f], RT⟩) :: h) w
theorem Rr.sl {w0 : World} {s : RS} {v : Value} {f : Int} (h : Rr w0 s v f) : ∃ l, RdB w0 v l := by
  cases s with
  | none => exact h.2
  | some l => exact ⟨l, h.2.1⟩
theorem RrSt.sub {w0 w : World} {b : Nat} {s : RS} {h h' : HP} (hw : RrSt w0 b s h w) (hc : ∀ a, cnt a h' ≤ cnt a h) : RrSt w0 b s h' w := by
  obtain ⟨v, f, hw, hs⟩ := hw
  exact ⟨v, f, hw, hs.re (fun a => by have := hc a; simp only [cnt_cons]; omega)⟩
theorem RrSt.tr {w0 w : World} {b : Nat} {s : RS} {h : HP} (hw : RrSt w0 b s h w) : Tr w0 no w := by
  obtain ⟨v, f, _, hs⟩ := hw; exact hs.tr

theorem take_spec {w0 w : World} {b : Nat} {s : RS} {h : HP} (n : Nat) (hw : RrSt w0 b s h w) {K : Value → World → Prop}
    (k1 : ∀ l, s = some l → n ≤ l.length → ∀ v' w', RdB w0 v' (l.take n) → RrSt w0 b (some (l.drop n)) h w' → K v' w')
    (k2 : (∀ l, s = some l → l.length < n) → ∀ w', RrSt w0 b none h w' → K (.slice none 0 0) w') : F58 (.pointer (some ⟨b, 0, none⟩)) (.int .i64 n) w K := by
  unfold F58
  obtain ⟨v, f, hr, hs⟩ := hw
  refine pJoin_id ?_
  cases s with
  | none =>
    obtain ⟨hf, hl⟩ := hr
    try simp (disch := omega) only [pV_some, pE_some, pU_some, st_add, st_sub, st_mul, st_quo, st_rem, st_eql, st_neq, st_lss, st_leq, st_gtr, st_geq, st_seq, st_sneq, st_beq, st_bneq, st_not, st_neg, st_lenS, st_capS, st_lenT, st_fldA, st_conv, st_pick, st_ext0, st_ext1, st_ext2, st_ext3, st_nilS, st_nilP, st_nilF, st_nilE, st_nilN, st_none, st_some, st_true, st_false, nilC, add_lit, Nat.zero_add, Nat.add_zero, nth0, nth1, nth2, nth3, nth4, nth5, nth6, List.getElem?_cons_succ, List.getElem?_cons_zero, cond_true, cond_false, pSC_orp, pSC_andp, wrap_i64, Bool.not_true, Bool.not_false, hs.top.ld]
    refine pSC_and_f (by simpa using hf) ?_
    refine pIf_of (fun h => by cases h) (fun _ => ?_)
    try simp (disch := omega) only [pV_some, pE_some, pU_some, st_add, st_sub, st_mul, st_quo, st_rem, st_eql, st_neq, st_lss, st_leq, st_gtr, st_geq, st_seq, st_sneq, st_beq, st_bneq, st_not, st_neg, st_lenS, st_capS, st_lenT, st_fldA, st_conv, st_pick, st_ext0, st_ext1, st_ext2, st_ext3, st_nilS, st_nilP, st_nilF, st_nilE, st_nilN, st_none, st_some, st_true, st_false, nilC, add_lit, Nat.zero_add, Nat.add_zero, nth0, nth1, nth2, nth3, nth4, nth5, nth6, List.getElem?_cons_succ, List.getElem?_cons_zero, cond_true, cond_false, pSC_orp, pSC_andp, wrap_i64, Bool.not_true, Bool.not_false, hs.top.ld]
    refine pIf_of (fun _ => k2 (by simp) w ⟨v, f, ⟨hf, hl⟩, hs⟩) (fun h => by simp at h; exact absurd h hf)
  | some l =>
    obtain ⟨rfl, hv, hc, hlen⟩ := hr
    try simp (disch := omega) only [pV_some, pE_some, pU_some, st_add, st_sub, st_mul, st_quo, st_rem, st_eql, st_neq, st_lss, st_leq, st_gtr, st_geq, st_seq, st_sneq, st_beq, st_bneq, st_not, st_neg, st_lenS, st_capS, st_lenT, st_fldA, st_conv, st_pick, st_ext0, st_ext1, st_ext2, st_ext3, st_nilS, st_nilP, st_nilF, st_nilE, st_nilN, st_none, st_some, st_true, st_false, nilC, add_lit, Nat.zero_add, Nat.add_zero, nth0, nth1, nth2, nth3, nth4, nth5, nth6, List.getElem?_cons_succ, List.getElem?_cons_zero, cond_true, cond_false, pSC_orp, pSC_andp, wrap_i64, Bool.not_true, Bool.not_false, hs.top.ld, hv.len]
    refine pIf_of (fun hlt => ?_) (fun hlt => ?_)
    · have hlt : l.length < n := by simp at hlt; omega
      refine pU_st1 hs rfl [v, .int .i64 20] (by simp) rfl (fun w6 hs6 _ => ?_)
      try simp (disch := omega) only [pV_some, pE_some, pU_some, st_add, st_sub, st_mul, st_quo, st_rem, st_eql, st_neq, st_lss, st_leq, st_gtr, st_geq, st_seq, st_sneq, st_beq, st_bneq, st_not, st_neg, st_lenS, st_capS, st_lenT, st_fldA, st_conv, st_pick, st_ext0, st_ext1, st_ext2, st_ext3, st_nilS, st_nilP, st_nilF, st_nilE, st_nilN, st_none, st_some, st_true, st_false, nilC, add_lit, Nat.zero_add, Nat.add_zero, nth0, nth1, nth2, nth3, nth4, nth5, nth6, List.getElem?_cons_succ, List.getElem?_cons_zero, cond_true, cond_false, pSC_orp, pSC_andp, wrap_i64, Bool.not_true, Bool.not_false, hs6.top.ld]
      refine pIf_of (fun _ => ?_) (fun h => by simp at h)
      exact k2 (fun l' hl' => by cases hl'; exact hlt) w6 ⟨v, 20, ⟨by omega, l, hv⟩, hs6⟩
    · have hlt : n ≤ l.length := by simp at hlt; omega
      refine pIf_of (fun h => by simp at h) (fun _ => ?_)
      obtain ⟨v1, s1, r1⟩ := hv.take3 hlt (x := n) (y := n) rfl rfl
      obtain ⟨v2, s2, r2⟩ := hv.drop hlt (x := n) rfl
      try simp (disch := omega) only [pV_some, pE_some, pU_some, st_add, st_sub, st_mul, st_quo, st_rem, st_eql, st_neq, st_lss, st_leq, st_gtr, st_geq, st_seq, st_sneq, st_beq, st_bneq, st_not, st_neg, st_lenS, st_capS, st_lenT, st_fldA, st_conv, st_pick, st_ext0, st_ext1, st_ext2, st_ext3, st_nilS, st_nilP, st_nilF, st_nilE, st_nilN, st_none, st_some, st_true, st_false, nilC, add_lit, Nat.zero_add, Nat.add_zero, nth0, nth1, nth2, nth3, nth4, nth5, nth6, List.getElem?_cons_succ, List.getElem?_cons_zero, cond_true, cond_false, pSC_orp, pSC_andp, wrap_i64, Bool.not_true, Bool.not_false, s1, s2]
      refine pU_st1 hs r2.one [v2, .int .i64 0] (by simp) rfl (fun w6 hs6 _ => ?_)
      have e1 : RdB w0 v1 (l.take n) := by
        have hl1 : (l.take n).length = n := by simp; omega
        show RdC w0 1 v1 (l.take n).length _
        rw [hl1]
        simpa [bys, List.map_take] using r1
      have e2 : RdB w0 v2 (l.drop n) := by
        have hl2 : (l.drop n).length = l.length - n := by simp
        show RdC w0 1 v2 (l.drop n).length _
        rw [hl2]
        simpa [bys, List.map_drop] using r2
      exact k1 l rfl hlt v1 w6 e1 ⟨v2, 0, ⟨rfl, e2, fun c h => hc c (List.mem_of_mem_drop h), by simp; omega⟩, hs6⟩

theorem rnum_spec {w0 w : World} {b : Nat} {s : RS} {h : HP} (n : Nat) (hn : n ≤ 8) (hw : RrSt w0 b s h w) {K : Value → World → Prop}
    (k : ∀ w', RrSt w0 b (rd n s).2 h w' → (rd n s).1 < 256 ^ n → K (.int .u64 (((rd n s).1 : Nat) : Int)) w') : F45 (.pointer (some ⟨b, 0, none⟩)) (.int .i64 n) w K := by
  unfold F45
  have hb : ∀ l, s = some l → ∀ c ∈ l, c < 256 := by
    obtain ⟨v, f, hr, hs⟩ := hw
    rintro l rfl
    exact hr.2.2.1
  refine F58_pc (take_spec n hw (fun l hl hle v1 w1 hv1 hw1 => ?_) (fun hl w1 hw1 => ?_))
  · subst hl
    have hbl : ∀ c ∈ l.take n, c < 256 := fun c hc => hb l rfl c (List.mem_of_mem_take hc)
    have hlen : (l.take n).length = n := by simp; omega
    have e : rd n (some l) = (be (l.take n), some (l.drop n)) := by rw [rd, if_pos hle]
    rw [e] at k
    have hlenv := hv1.len
    rw [hlen] at hlenv
    try simp (disch := omega) only [pV_some, pE_some, pU_some, st_add, st_sub, st_mul, st_quo, st_rem, st_eql, st_neq, st_lss, st_leq, st_gtr, st_geq, st_seq, st_sneq, st_beq, st_bneq, st_not, st_neg, st_lenS, st_capS, st_lenT, st_fldA, st_conv, st_pick, st_ext0, st_ext1, st_ext2, st_ext3, st_nilS, st_nilP, st_nilF, st_nilE, st_nilN, st_none, st_some, st_true, st_false, nilC, add_lit, Nat.zero_add, Nat.add_zero, nth0, nth1, nth2, nth3, nth4, nth5, nth6, List.getElem?_cons_succ, List.getElem?_cons_zero, cond_true, cond_false, pSC_orp, pSC_andp, wrap_i64, Bool.not_true, Bool.not_false, hlenv]
    refine pLoop_up (I := fun i vs w' => vs = [.int .u64 ((be ((l.take n).take i) : Nat) : Int), .int .i64 (i : Nat)] ∧ w' = w1) n 0 (Nat.zero_le _) ⟨rfl, rfl⟩ ?_
    rintro i vs w2 hi ⟨rfl, rfl⟩ go hgo
    try simp (disch := omega) only [pV_some, pE_some, pU_some, st_add, st_sub, st_mul, st_quo, st_rem, st_eql, st_neq, st_lss, st_leq, st_gtr, st_geq, st_seq, st_sneq, st_beq, st_bneq, st_not, st_neg, st_lenS, st_capS, st_lenT, st_fldA, st_conv, st_pick, st_ext0, st_ext1, st_ext2, st_ext3, st_nilS, st_nilP, st_nilF, st_nilE, st_nilN, st_none, st_some, st_true, st_false, nilC, add_lit, Nat.zero_add, Nat.add_zero, nth0, nth1, nth2, nth3, nth4, nth5, nth6, List.getElem?_cons_succ, List.getElem?_cons_zero, cond_true, cond_false, pSC_orp, pSC_andp, wrap_i64, Bool.not_true, Bool.not_false]
    refine pIf_of (fun hlt => ?_) (fun hlt => ?_)
    · have hlt : i < n := by simpa using hlt
      have hx := List.getElem?_eq_getElem (l := l.take n) (i := i) (by omega)
      obtain ⟨ad, i1, c1⟩ := (hv1.gr hw1.tr).at1 (bys_at hx) (x := i) rfl
      have hc := hbl _ (List.getElem_mem (l := l.take n) (n := i) (by omega))
      have hlt56 : be ((l.take n).take i) < 72057594037927936 := by
        have h1 := be_lt ((l.take n).take i) (fun c hc => hbl c (List.mem_of_mem_take hc))
        have h2 : ((l.take n).take i).length ≤ 7 := by rw [List.length_take]; omega
        have h3 : 256 ^ ((l.take n).take i).length ≤ 256 ^ 7 := Nat.pow_le_pow_right (by omega) h2
        have h4 : (256 : Nat) ^ 7 = 72057594037927936 := by decide
        omega
      try simp (disch := omega) only [pV_some, pE_some, pU_some, st_add, st_sub, st_mul, st_quo, st_rem, st_eql, st_neq, st_lss, st_leq, st_gtr, st_geq, st_seq, st_sneq, st_beq, st_bneq, st_not, st_neg, st_lenS, st_capS, st_lenT, st_fldA, st_conv, st_pick, st_ext0, st_ext1, st_ext2, st_ext3, st_nilS, st_nilP, st_nilF, st_nilE, st_nilN, st_none, st_some, st_true, st_false, nilC, add_lit, Nat.zero_add, Nat.add_zero, nth0, nth1, nth2, nth3, nth4, nth5, nth6, List.getElem?_cons_succ, List.getElem?_cons_zero, cond_true, cond_false, pSC_orp, pSC_andp, wrap_i64, Bool.not_true, Bool.not_false, i1, ld1r c1, shl8 hlt56, wrap_u64]
      rw [Nat.mod_eq_of_lt (show (l.take n)[i] < 18446744073709551616 by omega)]
      try simp (disch := omega) only [pV_some, pE_some, pU_some, st_add, st_sub, st_mul, st_quo, st_rem, st_eql, st_neq, st_lss, st_leq, st_gtr, st_geq, st_seq, st_sneq, st_beq, st_bneq, st_not, st_neg, st_lenS, st_capS, st_lenT, st_fldA, st_conv, st_pick, st_ext0, st_ext1, st_ext2, st_ext3, st_nilS, st_nilP, st_nilF, st_nilE, st_nilN, st_none, st_some, st_true, st_false, nilC, add_lit, Nat.zero_add, Nat.add_zero, nth0, nth1, nth2, nth3, nth4, nth5, nth6, List.getElem?_cons_succ, List.getElem?_cons_zero, cond_true, cond_false, pSC_orp, pSC_andp, wrap_i64, Bool.not_true, Bool.not_false, or8 hlt56 hc]
      refine hgo _ _ hlt ⟨?_, rfl⟩
      rw [List.take_add_one, hx]
      simp only [Option.toList_some]
      rw [be_snoc]; simp
    · obtain rfl : i = n := by simp at hlt; omega
      have e3 : (l.take i).take i = l.take i := by rw [List.take_take, Nat.min_self]
      rw [e3]
      have := be_lt _ hbl
      rw [hlen] at this
      exact k w2 hw1 this
  · have e : rd n s = (0, none) := by
      cases s with
      | none => rfl
      | some l => rw [rd, if_neg (by have := hl l rfl; omega)]
    rw [e] at k
    try simp (disch := omega) only [pV_some, pE_some, pU_some, st_add, st_sub, st_mul, st_quo, st_rem, st_eql, st_neq, st_lss, st_leq, st_gtr, st_geq, st_seq, st_sneq, st_beq, st_bneq, st_not, st_neg, st_lenS, st_capS, st_lenT, st_fldA, st_conv, st_pick, st_ext0, st_ext1, st_ext2, st_ext3, st_nilS, st_nilP, st_nilF, st_nilE, st_nilN, st_none, st_some, st_true, st_false, nilC, add_lit, Nat.zero_add, Nat.add_zero, nth0, nth1, nth2, nth3, nth4, nth5, nth6, List.getElem?_cons_succ, List.getElem?_cons_zero, cond_true, cond_false, pSC_orp, pSC_andp, wrap_i64, Bool.not_true, Bool.not_false]
    refine ⟨fun m vs w' => vs = [.int .u64 0, .int .i64 0] ∧ w' = w1, 0, ⟨rfl, rfl⟩, ?_⟩
    rintro m vs w2 ⟨rfl, rfl⟩
    try simp (disch := omega) only [pV_some, pE_some, pU_some, st_add, st_sub, st_mul, st_quo, st_rem, st_eql, st_neq, st_lss, st_leq, st_gtr, st_geq, st_seq, st_sneq, st_beq, st_bneq, st_not, st_neg, st_lenS, st_capS, st_lenT, st_fldA, st_conv, st_pick, st_ext0, st_ext1, st_ext2, st_ext3, st_nilS, st_nilP, st_nilF, st_nilE, st_nilN, st_none, st_some, st_true, st_false, nilC, add_lit, Nat.zero_add, Nat.add_zero, nth0, nth1, nth2, nth3, nth4, nth5, nth6, List.getElem?_cons_succ, List.getElem?_cons_zero, cond_true, cond_false, pSC_orp, pSC_andp, wrap_i64, Bool.not_true, Bool.not_false]
    refine pIf_of (fun h => by simp at h) (fun _ => ?_)
    exact k w2 hw1 (Nat.pow_pos (by omega))

theorem rd_st {w0 w : World} {b n : Nat} {s : RS} {h : HP} (hw : RrSt w0 b s h w) : True := trivial
theorem rU32_spec {w0 w : World} {b : Nat} {s : RS} {h : HP} (hw : RrSt w0 b s h w) {K : Value → World → Prop}
    (k : ∀ w', RrSt w0 b (rd 4 s).2 h w' → (rd 4 s).1 < 4294967296 → K (.int .i64 (((rd 4 s).1 : Nat) : Int)) w') : F26 (.pointer (some ⟨b, 0, none⟩)) w K := by
  unfold F26
  refine F45_pc (rnum_spec 4 (by omega) hw (fun w1 hw1 hlt => ?_))
  have hlt : (rd 4 s).1 < 4294967296 := hlt
  try simp (disch := omega) only [pV_some, pE_some, pU_some, st_add, st_sub, st_mul, st_quo, st_rem, st_eql, st_neq, st_lss, st_leq, st_gtr, st_geq, st_seq, st_sneq, st_beq, st_bneq, st_not, st_neg, st_lenS, st_capS, st_lenT, st_fldA, st_conv, st_pick, st_ext0, st_ext1, st_ext2, st_ext3, st_nilS, st_nilP, st_nilF, st_nilE, st_nilN, st_none, st_some, st_true, st_false, nilC, add_lit, Nat.zero_add, Nat.add_zero, nth0, nth1, nth2, nth3, nth4, nth5, nth6, List.getElem?_cons_succ, List.getElem?_cons_zero, cond_true, cond_false, pSC_orp, pSC_andp, wrap_i64, Bool.not_true, Bool.not_false]
  exact k w1 hw1 hlt
theorem rI64_spec {w0 w : World} {b : Nat} {s : RS} {h : HP} (hw : RrSt w0 b s h w) {K : Value → World → Prop}
    (k : ∀ w', RrSt w0 b (rdI s).2 h w' → K (.int .i64 (rdI s).1) w') : F47 (.pointer (some ⟨b, 0, none⟩)) w K := by
  unfold F47
  refine F45_pc (rnum_spec 8 (by omega) hw (fun w1 hw1 hlt => ?_))
  have hlt : (rd 8 s).1 < 18446744073709551616 := hlt
  try simp (disch := omega) only [pV_some, pE_some, pU_some, st_add, st_sub, st_mul, st_quo, st_rem, st_eql, st_neq, st_lss, st_leq, st_gtr, st_geq, st_seq, st_sneq, st_beq, st_bneq, st_not, st_neg, st_lenS, st_capS, st_lenT, st_fldA, st_conv, st_pick, st_ext0, st_ext1, st_ext2, st_ext3, st_nilS, st_nilP, st_nilF, st_nilE, st_nilN, st_none, st_some, st_true, st_false, nilC, add_lit, Nat.zero_add, Nat.add_zero, nth0, nth1, nth2, nth3, nth4, nth5, nth6, List.getElem?_cons_succ, List.getElem?_cons_zero, cond_true, cond_false, pSC_orp, pSC_andp, wrap_i64, Bool.not_true, Bool.not_false, sg_wrap hlt]
  exact k w1 hw1

/-- What has been read, and what is still to be. -/
def upto {α : Type} (xs : List α) (m : List α × RS) : List α × RS :=
  match m with
  | (_, none) => ([], none)
  | (l, some r) => (xs ++ l, some r)
theorem upto_none {α : Type} (g : RS → α × RS) {n : Nat} {s : RS} {a : α} (xs : List α) (h : g s = (a, none)) : upto xs (many g (n + 1) s) = ([], none) := by
  rw [many, h]; rfl
theorem upto_some {α : Type} (g : RS → α × RS) {n : Nat} {s : RS} {r : List Nat} {a : α} (xs : List α) (h : g s = (a, some r)) : upto xs (many g (n + 1) s) = upto (xs ++ [a]) (many g n (some r)) := by
  rw [many, h]
  simp only
  match hm : many g n (some r) with
  | (_, none) => rfl
  | (l, some t) => simp [upto]
theorem upto_nil {α : Type} (g : RS → α × RS) (n : Nat) (s : RS) : upto [] (many g n s) = many g n s := by
  cases n with
  | zero => cases s <;> simp [many, upto]
  | succ n =>
    rw [many]
    match hg : g s with
    | (_, none) => simp [upto]
    | (a, some r) =>
      simp only
      match hm : many g n (some r) with
      | (_, none) => simp [upto]
      | (l, some t) => simp [upto]
end Go.Proofs.Ytcghhhjklihpkaa
