/- script: Encode, the program's and the document's. -/
import Derived.Test.YtcghhhjklihpkaaSbH
set_option linter.unusedSimpArgs false
set_option linter.unusedVariables false
namespace Go.Proofs.Ytcghhhjklihpkaa
open Go.Bk Go.RowKit

theorem WrSt.put {w0 w : World} {b b1 o sz : Nat} {s : RS} {h : HP} {cs : List Value} {ty : TypeId} {v : Value} (hw : WrSt w0 b s ((b1, ⟨cs, ty⟩) :: h) w) (cs' : List Value) (hsz : v.cells.size = sz) (hl : o + sz ≤ cs.length) (hv : ∀ u ∈ v.cells.toList, oneC u = true)
    (he : cs' = cs.take o ++ v.cells.toList ++ cs.drop (o + sz)) {K : World → Prop} (k : ∀ w', WrSt w0 b s ((b1, ⟨cs', ty⟩) :: h) w' → Has w' b1 ⟨cs', ty⟩ → K w') : pU (stE sz (.pointer (some ⟨b1, o, none⟩)) v w) K := by
  obtain ⟨u, f, hp, hw, hs⟩ := hw
  have hs' : St w0 no ((b1, ⟨cs, ty⟩) :: ((b, ⟨[u, .int .i64 f], WT⟩) :: (hp ++ h))) w := hs.re (fun _ => by simp only [cnt_nil, cnt_cons, cnt_append]; omega)
  refine pU_st hs' cs' hsz hl hv he (fun w' hs2 _ => ?_)
  exact k w' ⟨u, f, hp, hw, hs2.re (fun _ => by simp only [cnt_nil, cnt_cons, cnt_append]; omega)⟩ hs2.top

def insOf (ps : List (In × Value)) : List In := ps.map (·.1)
def EncBad (l : List In) : Prop := 65536 < l.length ∨ 4194304 < (encL l).length
instance (l : List In) : Decidable (EncBad l) := inferInstanceAs (Decidable (_ ∨ _))
theorem encs_le {l : List In} {B : Nat} (h : ∀ x ∈ l, x.d.length ≤ B) : (encs l).length ≤ l.length * (28 + 8 * B) := by
  induction l with
  | nil => simp [encs]
  | cons x l ih =>
    have h1 := h x (List.mem_cons_self ..)
    have h2 := ih (fun y hy => h y (List.mem_cons_of_mem _ hy))
    rw [encs_cons, List.length_append, enc1_len, List.length_cons, Nat.add_mul]
    omega

theorem putAll_spec {w0 w : World} {b : Nat} {h : HP} {v : Value} {ps : List (In × Value)} (hw : WrSt w0 b (some []) h w) (hp : InsR w0 v ps) (hB : ∀ p ∈ ps, p.1.d.length ≤ 1048576) (hn : ps.length ≤ 134217728) {K : Value → World → Prop}
    (k : ∀ w', WrSt w0 b (if 65536 < ps.length then none else some (encL (insOf ps))) h w' → K (.tuple #[]) w') : F37 (.pointer (some ⟨b, 0, none⟩)) v (.int .i64 65536) (.func (.func 38) #[] #[]) w K := by
  unfold F37
  have hvc := hp.c.cells
  refine hw.box [v] (by rw [hvc]) (fun b1 w1 hw1 hB1 => ?_)
  refine hw1.box [.int .i64 65536] rfl (fun b2 w2 hw2 hC => ?_)
  have hB2 : Has w2 b1 ⟨[v], 22⟩ := hw2.has (p := (b1, ⟨[v], 22⟩)) (by simp)
  have fin : ∀ w3, WrSt w0 b (if 65536 < ps.length then none else some (n4 ps.length)) ((b2, ⟨[.int .i64 65536], 3⟩) :: (b1, ⟨[v], 22⟩) :: h) w3 →
      pV (ldV false 1 w3 (.pointer (some ⟨b1, 0, none⟩))) fun t13_4 => pV (lenS t13_4) fun t14_5 => pLoop [(.int .i64 0)] w3 fun go1 vs1 w =>
    pV (binV .lss (nth vs1 0) t14_5) fun t16_6 =>
    pIf t16_6
    (pV (idxV 4 t13_4 (nth vs1 0)) fun t17_7 =>
      pV (ldV true 4 w t17_7) fun t18_8 =>
      pE (boxE 42 (.agg #[(.int .i64 0), (.int .i64 0), (.int .i64 0), (.slice none 0 0)]) w) fun t9_9 w =>
      pU (stE 4 t9_9 t18_8 w) fun w =>
      pV (nilC (.pointer (some ⟨b, 0, none⟩))) fun t20_10 =>
      pV (fldA 1 t20_10) fun t21_11 =>
      pV (ldV false 1 w t21_11) fun t22_12 =>
      pV (binV .neq t22_12 (.int .i64 0)) fun t23_13 =>
      pIf t23_13
      (K (.tuple #[]) w)
      (pV (ldV true 4 w t9_9) fun t26_14 =>
        pCallV Try.prog (.func (.func 38) #[] #[]) [(.pointer (some ⟨b, 0, none⟩)), t26_14] w fun _ w =>
        pV (binV .add (nth vs1 0) (.int .i64 1)) fun t28_16 =>
        go1 [t28_16] w))
    (K (.tuple #[]) w) := by
    intro w3 hw3
    have hB3 : Has w3 b1 ⟨[v], 22⟩ := hw3.has (p := (b1, ⟨[v], 22⟩)) (by simp)
    try simp (disch := omega) only [pV_some, pE_some, pU_some, st_add, st_sub, st_mul, st_quo, st_rem, st_eql, st_neq, st_lss, st_leq, st_gtr, st_geq, st_seq, st_sneq, st_beq, st_bneq, st_not, st_neg, st_lenS, st_capS, st_lenT, st_fldA, st_conv, st_pick, st_ext0, st_ext1, st_ext2, st_ext3, st_nilS, st_nilP, st_nilF, st_nilE, st_nilN, st_none, st_some, st_true, st_false, nilC, add_lit, Nat.zero_add, Nat.add_zero, nth0, nth1, nth2, nth3, nth4, nth5, nth6, List.getElem?_cons_succ, List.getElem?_cons_zero, cond_true, cond_false, pSC_orp, pSC_andp, wrap_i64, Bool.not_true, Bool.not_false, hB3.ld, hp.c.len]
    refine pLoop_up (I := fun i vs w' => vs = [.int .i64 (i : Nat)] ∧ WrSt w0 b (if 65536 < ps.length then none else some (n4 ps.length ++ encs (insOf (ps.take i)))) h w') ps.length 0 (Nat.zero_le _) ⟨rfl, ?_⟩ ?_
    · have := hw3.sub (h' := h) (fun _ => by simp only [cnt_nil, cnt_cons, cnt_append]; omega)
      simpa [encs, insOf] using this
    rintro i vs w4 hi ⟨rfl, hw4⟩ go hgo
    try simp (disch := omega) only [pV_some, pE_some, pU_some, st_add, st_sub, st_mul, st_quo, st_rem, st_eql, st_neq, st_lss, st_leq, st_gtr, st_geq, st_seq, st_sneq, st_beq, st_bneq, st_not, st_neg, st_lenS, st_capS, st_lenT, st_fldA, st_conv, st_pick, st_ext0, st_ext1, st_ext2, st_ext3, st_nilS, st_nilP, st_nilF, st_nilE, st_nilN, st_none, st_some, st_true, st_false, nilC, add_lit, Nat.zero_add, Nat.add_zero, nth0, nth1, nth2, nth3, nth4, nth5, nth6, List.getElem?_cons_succ, List.getElem?_cons_zero, cond_true, cond_false, pSC_orp, pSC_andp, wrap_i64, Bool.not_true, Bool.not_false]
    refine pIf_of (fun hlt => ?_) (fun hlt => ?_)
    · have hlt : i < ps.length := by simpa using hlt
      have hp1 := List.getElem?_eq_getElem hlt
      have hmem := List.getElem_mem hlt
      obtain ⟨a1, i1, c1⟩ := (hp.gr hw4.tr).at hp1 (x := i) rfl
      try simp (disch := omega) only [pV_some, pE_some, pU_some, st_add, st_sub, st_mul, st_quo, st_rem, st_eql, st_neq, st_lss, st_leq, st_gtr, st_geq, st_seq, st_sneq, st_beq, st_bneq, st_not, st_neg, st_lenS, st_capS, st_lenT, st_fldA, st_conv, st_pick, st_ext0, st_ext1, st_ext2, st_ext3, st_nilS, st_nilP, st_nilF, st_nilE, st_nilN, st_none, st_some, st_true, st_false, nilC, add_lit, Nat.zero_add, Nat.add_zero, nth0, nth1, nth2, nth3, nth4, nth5, nth6, List.getElem?_cons_succ, List.getElem?_cons_zero, cond_true, cond_false, pSC_orp, pSC_andp, wrap_i64, Bool.not_true, Bool.not_false, i1, row_ld c1]
      refine hw4.box [.int .i64 0, .int .i64 0, .int .i64 0, .slice none 0 0] rfl (fun b5 w5 hw5 _ => ?_)
      refine hw5.put [.int .i64 ps[i].1.t, .int .i64 ps[i].1.k, .int .i64 ps[i].1.g, ps[i].2] rfl (by simp [Value.cells]) (row_one (hp.d _ hmem).one) rfl (fun w6 hw6 hB6 => ?_)
      have hw6' := hw6
      obtain ⟨u, f, hq, hwr, hs⟩ := hw6
      try simp (disch := omega) only [pV_some, pE_some, pU_some, st_add, st_sub, st_mul, st_quo, st_rem, st_eql, st_neq, st_lss, st_leq, st_gtr, st_geq, st_seq, st_sneq, st_beq, st_bneq, st_not, st_neg, st_lenS, st_capS, st_lenT, st_fldA, st_conv, st_pick, st_ext0, st_ext1, st_ext2, st_ext3, st_nilS, st_nilP, st_nilF, st_nilE, st_nilN, st_none, st_some, st_true, st_false, nilC, add_lit, Nat.zero_add, Nat.add_zero, nth0, nth1, nth2, nth3, nth4, nth5, nth6, List.getElem?_cons_succ, List.getElem?_cons_zero, cond_true, cond_false, pSC_orp, pSC_andp, wrap_i64, Bool.not_true, Bool.not_false, hs.top.ld, hB6.ldw (sz := 4) rfl]
      by_cases hbig : 65536 < ps.length
      · rw [if_pos hbig] at hwr hw6'
        refine pIf_of (fun hf => ?_) (fun hf => ?_)
        · have := k w6 (by rw [if_pos hbig]; exact hw6'.sub (fun _ => by simp only [cnt_nil, cnt_cons, cnt_append]; omega))
          exact this
        · have := hwr.1
          simp at hf
          exact absurd hf this
      · rw [if_neg hbig] at hwr hw6'
        refine pIf_of (fun hf => by simp [hwr.1] at hf) (fun hf => ?_)
        have hm : Most 1099511627776 (some (n4 ps.length ++ encs (insOf (ps.take i)))) := by
          intro xs hx
          cases hx
          have h1 := encs_le (l := insOf (ps.take i)) (B := 1048576) (fun x hx => by
            obtain ⟨p, hp, rfl⟩ := List.mem_map.1 hx
            exact hB p (List.mem_of_mem_take hp))
          have h2 : (insOf (ps.take i)).length ≤ 65536 := by simp [insOf]; omega
          have h3 : (insOf (ps.take i)).length * (28 + 8 * 1048576) ≤ 65536 * (28 + 8 * 1048576) := Nat.mul_le_mul_right _ h2
          rw [List.length_append, n4_len]
          omega
        refine pCallV_func (F38_pc (put_spec (p := ps[i]) hw6' (hp.d _ hmem) (hB _ hmem) hm (fun w7 hw7 => ?_)))
        refine hgo _ _ hlt ⟨by simp, ?_⟩
        rw [if_neg hbig]
        have e : n4 ps.length ++ encs (insOf (ps.take (i + 1))) = n4 ps.length ++ encs (insOf (ps.take i)) ++ enc1 ps[i].1 := by
          rw [List.take_add_one, hp1]
          simp only [insOf, List.map_append, encs_append, Option.toList_some, List.map_cons, List.map_nil, encs_cons, List.append_assoc]
          simp [encs]
        rw [e]
        exact hw7.sub (fun _ => by simp only [cnt_nil, cnt_cons, cnt_append]; omega)
    · obtain rfl : i = ps.length := by simp at hlt; omega
      rw [List.take_length] at hw4
      refine k w4 ?_
      simpa [encL, insOf] using hw4
  by_cases hbig : 65536 < ps.length
  · refine F49_pc (do_no (e := 1) hw2 (by omega) (fun K' hk => ?_) (fun w3 hw3 => fin w3 (by rw [if_pos hbig]; exact hw3)))
    refine pCallV_func (F50_pc ?_)
    unfold F50
    try simp (disch := omega) only [pV_some, pE_some, pU_some, st_add, st_sub, st_mul, st_quo, st_rem, st_eql, st_neq, st_lss, st_leq, st_gtr, st_geq, st_seq, st_sneq, st_beq, st_bneq, st_not, st_neg, st_lenS, st_capS, st_lenT, st_fldA, st_conv, st_pick, st_ext0, st_ext1, st_ext2, st_ext3, st_nilS, st_nilP, st_nilF, st_nilE, st_nilN, st_none, st_some, st_true, st_false, nilC, add_lit, Nat.zero_add, Nat.add_zero, nth0, nth1, nth2, nth3, nth4, nth5, nth6, List.getElem?_cons_succ, List.getElem?_cons_zero, cond_true, cond_false, pSC_orp, pSC_andp, wrap_i64, Bool.not_true, Bool.not_false, hB2.ld, hC.ld, hp.c.len]
    refine pIf_of (fun hf => hk w2 (St.nil _ _)) (fun hf => by simp at hf; omega)
  · refine F49_pc (do_ok (l := n4 ps.length) hw2 (by intro xs hx; cases hx; simp) (by rw [n4_len]; omega) (fun K' hk => ?_) (fun w3 hw3 => fin w3 (by rw [if_neg hbig]; simpa using hw3)))
    refine pCallV_func (F50_pc ?_)
    unfold F50
    try simp (disch := omega) only [pV_some, pE_some, pU_some, st_add, st_sub, st_mul, st_quo, st_rem, st_eql, st_neq, st_lss, st_leq, st_gtr, st_geq, st_seq, st_sneq, st_beq, st_bneq, st_not, st_neg, st_lenS, st_capS, st_lenT, st_fldA, st_conv, st_pick, st_ext0, st_ext1, st_ext2, st_ext3, st_nilS, st_nilP, st_nilF, st_nilE, st_nilN, st_none, st_some, st_true, st_false, nilC, add_lit, Nat.zero_add, Nat.add_zero, nth0, nth1, nth2, nth3, nth4, nth5, nth6, List.getElem?_cons_succ, List.getElem?_cons_zero, cond_true, cond_false, pSC_orp, pSC_andp, wrap_i64, Bool.not_true, Bool.not_false, hB2.ld, hC.ld, hp.c.len]
    refine pIf_of (fun hf => by simp at hf; omega) (fun hf => ?_)
    try simp (disch := omega) only [pV_some, pE_some, pU_some, st_add, st_sub, st_mul, st_quo, st_rem, st_eql, st_neq, st_lss, st_leq, st_gtr, st_geq, st_seq, st_sneq, st_beq, st_bneq, st_not, st_neg, st_lenS, st_capS, st_lenT, st_fldA, st_conv, st_pick, st_ext0, st_ext1, st_ext2, st_ext3, st_nilS, st_nilP, st_nilF, st_nilE, st_nilN, st_none, st_some, st_true, st_false, nilC, add_lit, Nat.zero_add, Nat.add_zero, nth0, nth1, nth2, nth3, nth4, nth5, nth6, List.getElem?_cons_succ, List.getElem?_cons_zero, cond_true, cond_false, pSC_orp, pSC_andp, wrap_i64, Bool.not_true, Bool.not_false, wrap_u64]
    rw [Nat.mod_eq_of_lt (show ps.length < 18446744073709551616 by omega)]
    exact F51_pc (big_spec ps.length 4 (by omega) (fun v2 hp2 w2 ho2 hs2 => hk v2 hp2 w2 ho2 hs2))

theorem encode_spec {w0 : World} {v : Value} {ps : List (In × Value)} (hp : InsR w0 v ps) (hB : ∀ p ∈ ps, p.1.d.length ≤ 1048576) (hn : ps.length ≤ 134217728) {K : Value → World → Prop}
    (k1 : EncBad (insOf ps) → ∀ w', St w0 no [] w' → K (.tuple #[.slice none 0 0, .int .i64 1]) w')
    (k2 : ¬ EncBad (insOf ps) → ∀ v' h w', OwnB v' (sealed 3 (encL (insOf ps))) h → St w0 no h w' → K (.tuple #[v', .int .i64 0]) w') : F21 v w0 K := by
  unfold F21
  have hl : (insOf ps).length = ps.length := by simp [insOf]
  refine F36_pc ?_
  unfold F36
  refine pV_eq (show _ = some (.agg #[.slice none 0 0, .int .i64 0]) from rfl) ?_
  refine pE_boxc (St.nil w0 no) [.slice none 0 0, .int .i64 0] rfl (fun b w1 hs1 ht1 _ => ?_)
  have hw1 : WrSt w0 b (some []) [] w1 := ⟨_, 0, [], ⟨rfl, ownS_nil _ _⟩, hs1⟩
  refine F37_pc (putAll_spec hw1 hp hB hn (fun w2 hw2 => ?_))
  refine F39_pc ?_
  unfold F39
  obtain ⟨u, f, hq, hwr, hs⟩ := hw2
  try simp (disch := omega) only [pV_some, pE_some, pU_some, st_add, st_sub, st_mul, st_quo, st_rem, st_eql, st_neq, st_lss, st_leq, st_gtr, st_geq, st_seq, st_sneq, st_beq, st_bneq, st_not, st_neg, st_lenS, st_capS, st_lenT, st_fldA, st_conv, st_pick, st_ext0, st_ext1, st_ext2, st_ext3, st_nilS, st_nilP, st_nilF, st_nilE, st_nilN, st_none, st_some, st_true, st_false, nilC, add_lit, Nat.zero_add, Nat.add_zero, nth0, nth1, nth2, nth3, nth4, nth5, nth6, List.getElem?_cons_succ, List.getElem?_cons_zero, cond_true, cond_false, pSC_orp, pSC_andp, wrap_i64, Bool.not_true, Bool.not_false, hs.top.ld]
  by_cases hbig : 65536 < ps.length
  · rw [if_pos hbig] at hwr
    refine pIf_of (fun hf => ?_) (fun hf => by simp at hf; exact absurd hf hwr.1)
    refine pDraw_st hs (fun w3 hs3 _ => ?_)
    try simp (disch := omega) only [pV_some, pE_some, pU_some, st_add, st_sub, st_mul, st_quo, st_rem, st_eql, st_neq, st_lss, st_leq, st_gtr, st_geq, st_seq, st_sneq, st_beq, st_bneq, st_not, st_neg, st_lenS, st_capS, st_lenT, st_fldA, st_conv, st_pick, st_ext0, st_ext1, st_ext2, st_ext3, st_nilS, st_nilP, st_nilF, st_nilE, st_nilN, st_none, st_some, st_true, st_false, nilC, add_lit, Nat.zero_add, Nat.add_zero, nth0, nth1, nth2, nth3, nth4, nth5, nth6, List.getElem?_cons_succ, List.getElem?_cons_zero, cond_true, cond_false, pSC_orp, pSC_andp, wrap_i64, Bool.not_true, Bool.not_false, hs3.top.ld]
    refine pIf_of (fun _ => k1 (.inl (by omega)) w3 (hs3.re (fun _ => by simp only [cnt_nil, cnt_cons, cnt_append]; omega))) (fun h => ?_)
    rw [hf] at h; cases h
  · rw [if_neg hbig] at hwr
    obtain ⟨rfl, ho⟩ := hwr
    refine pIf_of (fun hf => by simp at hf) (fun hf => ?_)
    have hr : RdB w2 u (encL (insOf ps)) := ho.reads (h := [(b, ⟨[u, .int .i64 0], WT⟩)]) (hs.re (fun _ => by simp only [cnt_nil, cnt_cons, cnt_append]; omega))
    have hlen : (encL (insOf ps)).length ≤ 70368744177664 := by
      have h1 := encs_le (l := insOf ps) (B := 1048576) (fun x hx => by
        obtain ⟨p, hp, rfl⟩ := List.mem_map.1 hx
        exact hB p hp)
      have h3 : (insOf ps).length * (28 + 8 * 1048576) ≤ 65536 * (28 + 8 * 1048576) := Nat.mul_le_mul_right _ (by omega)
      rw [encL, List.length_append, n4_len]
      omega
    refine F44_pc (bclone_spec hr hlen (fun v4 hp4 w4 ho4 hs4 => ?_))
    refine pIf_of (fun hf => by simp at hf) (fun hf => ?_)
    refine F40_pc (seal_spec (ho4.reads (h := []) (hs4.re (fun _ => by simp only [cnt_nil, cnt_cons, cnt_append]; omega))) hlen 3 (by omega) (encL_lt _) (fun h => ?_) (fun h v5 hp5 w5 ho5 hs5 => ?_))
    · exact k1 (.inr h) w4 ((hs.call hs4).re (fun _ => by simp only [cnt_nil, cnt_cons, cnt_append]; omega))
    · exact k2 (fun hb => by rcases hb with hb | hb <;> omega) v5 hp5 w5 ho5 ((hs.call hs4).call hs5 |>.re (fun _ => by simp only [cnt_nil, cnt_cons, cnt_append]; omega))

/-- The document's body: all, if it isn't too long. -/
theorem body_spec {w0 : World} {v : Value} {ps : List (In × Value)} (hp : InsR w0 v ps) (hB : ∀ p ∈ ps, p.1.d.length ≤ 1048576) (hn : ps.length ≤ 65536) {K : Value → World → Prop}
    (k1 : 4194304 < (encL (insOf ps)).length → ∀ w', St w0 no [] w' → K (.tuple #[.slice none 0 0, .bool false]) w')
    (k2 : (encL (insOf ps)).length ≤ 4194304 → ∀ v' h w', OwnB v' (encL (insOf ps)) h → St w0 no h w' → K (.tuple #[v', .bool true]) w') : F41 v w0 K := by
  unfold F41
  try simp (disch := omega) only [pV_some, pE_some, pU_some, st_add, st_sub, st_mul, st_quo, st_rem, st_eql, st_neq, st_lss, st_leq, st_gtr, st_geq, st_seq, st_sneq, st_beq, st_bneq, st_not, st_neg, st_lenS, st_capS, st_lenT, st_fldA, st_conv, st_pick, st_ext0, st_ext1, st_ext2, st_ext3, st_nilS, st_nilP, st_nilF, st_nilE, st_nilN, st_none, st_some, st_true, st_false, nilC, add_lit, Nat.zero_add, Nat.add_zero, nth0, nth1, nth2, nth3, nth4, nth5, nth6, List.getElem?_cons_succ, List.getElem?_cons_zero, cond_true, cond_false, pSC_orp, pSC_andp, wrap_i64, Bool.not_true, Bool.not_false, hp.c.len, wrap_u64]
  rw [Nat.mod_eq_of_lt (show ps.length < 18446744073709551616 by omega)]
  refine F55_pc (number_spec ps.length 4 (by omega) (fun v1 hp1 w1 ho1 hs1 => ?_))
  have e0 : n4 ps.length = n4 ps.length ++ encs (insOf (ps.take 0)) := by simp [encs, insOf]
  have eL : encL (insOf ps) = n4 ps.length ++ encs (insOf ps) := by simp [encL, insOf]
  refine pLoop_up (I := fun i vs w' => ∃ (v : Value) (hq : HP), vs = [v, .int .i64 (i : Nat)] ∧ OwnB v (n4 ps.length ++ encs (insOf (ps.take i))) hq ∧ St w0 no hq w' ∧ (n4 ps.length ++ encs (insOf (ps.take i))).length ≤ 4194304) ps.length 0 (Nat.zero_le _) ⟨v1, hp1, rfl, by rw [← e0]; exact ho1, hs1, by simp [encs, insOf, n4_len]⟩ ?_
  rintro i vs w2 hi ⟨v2, hq2, rfl, ho2, hs2, hlen⟩ go hgo
  try simp (disch := omega) only [pV_some, pE_some, pU_some, st_add, st_sub, st_mul, st_quo, st_rem, st_eql, st_neq, st_lss, st_leq, st_gtr, st_geq, st_seq, st_sneq, st_beq, st_bneq, st_not, st_neg, st_lenS, st_capS, st_lenT, st_fldA, st_conv, st_pick, st_ext0, st_ext1, st_ext2, st_ext3, st_nilS, st_nilP, st_nilF, st_nilE, st_nilN, st_none, st_some, st_true, st_false, nilC, add_lit, Nat.zero_add, Nat.add_zero, nth0, nth1, nth2, nth3, nth4, nth5, nth6, List.getElem?_cons_succ, List.getElem?_cons_zero, cond_true, cond_false, pSC_orp, pSC_andp, wrap_i64, Bool.not_true, Bool.not_false]
  refine pIf_of (fun hlt => ?_) (fun hlt => ?_)
  · have hlt : i < ps.length := by simpa using hlt
    have hp1 := List.getElem?_eq_getElem hlt
    have hmem := List.getElem_mem hlt
    have hd := hp.d _ hmem
    have hdl := hB _ hmem
    obtain ⟨a1, i1, c1⟩ := (hp.gr hs2.tr).at hp1 (x := i) rfl
    try simp (disch := omega) only [pV_some, pE_some, pU_some, st_add, st_sub, st_mul, st_quo, st_rem, st_eql, st_neq, st_lss, st_leq, st_gtr, st_geq, st_seq, st_sneq, st_beq, st_bneq, st_not, st_neg, st_lenS, st_capS, st_lenT, st_fldA, st_conv, st_pick, st_ext0, st_ext1, st_ext2, st_ext3, st_nilS, st_nilP, st_nilF, st_nilE, st_nilN, st_none, st_some, st_true, st_false, nilC, add_lit, Nat.zero_add, Nat.add_zero, nth0, nth1, nth2, nth3, nth4, nth5, nth6, List.getElem?_cons_succ, List.getElem?_cons_zero, cond_true, cond_false, pSC_orp, pSC_andp, wrap_i64, Bool.not_true, Bool.not_false, i1, row_ld c1]
    refine pE_boxc hs2 [.int .i64 0, .int .i64 0, .int .i64 0, .slice none 0 0] rfl (fun b5 w5 hs5 _ _ => ?_)
    refine pU_st hs5 [.int .i64 ps[i].1.t, .int .i64 ps[i].1.k, .int .i64 ps[i].1.g, ps[i].2] rfl (by simp [Value.cells]) (row_one (hp.d _ hmem).one) rfl (fun w6 hs6 _ => ?_)
    have hB6 := hs6.top
    try simp (disch := omega) only [pV_some, pE_some, pU_some, st_add, st_sub, st_mul, st_quo, st_rem, st_eql, st_neq, st_lss, st_leq, st_gtr, st_geq, st_seq, st_sneq, st_beq, st_bneq, st_not, st_neg, st_lenS, st_capS, st_lenT, st_fldA, st_conv, st_pick, st_ext0, st_ext1, st_ext2, st_ext3, st_nilS, st_nilP, st_nilF, st_nilE, st_nilN, st_none, st_some, st_true, st_false, nilC, add_lit, Nat.zero_add, Nat.add_zero, nth0, nth1, nth2, nth3, nth4, nth5, nth6, List.getElem?_cons_succ, List.getElem?_cons_zero, cond_true, cond_false, pSC_orp, pSC_andp, wrap_i64, Bool.not_true, Bool.not_false, ho2.len, hB6.ld, hd.len]
    have e : encs (insOf (ps.take (i + 1))) = encs (insOf (ps.take i)) ++ enc1 ps[i].1 := by
      rw [List.take_add_one, hp1]
      simp only [insOf, List.map_append, encs_append, Option.toList_some, List.map_cons, List.map_nil, encs_cons]
      simp [encs]
    refine pIf_of (fun hbig => ?_) (fun hbig => ?_)
    · refine k1 ?_ w6 (hs6.re (fun _ => by simp only [cnt_nil, cnt_cons, cnt_append]; omega))
      have h1 : (encs (insOf ps)).length ≥ (encs (insOf (ps.take (i + 1)))).length := by
        conv => lhs; rw [← List.take_append_drop (i + 1) ps]
        rw [insOf, List.map_append, encs_append, List.length_append]
        exact Nat.le_add_right _ _
      rw [e, List.length_append, enc1_len] at h1
      rw [eL, List.length_append]
      rw [List.length_append] at hlen hbig
      have hbig : (4194304 : Int) < (((n4 ps.length).length + (encs (insOf (ps.take i))).length : Nat) : Int) + 28 + 8 * (ps[i].1.d.length : Int) := by simpa using hbig
      omega
    · have hbig : ((n4 ps.length ++ encs (insOf (ps.take i))).length : Int) + 28 + 8 * (ps[i].1.d.length : Int) ≤ 4194304 := by
        have := of_decide_eq_false hbig
        omega
      have num : ∀ (x : Int) (w : World) {K' : Value → World → Prop}, (∀ v' hp w', OwnB v' (n8 x) hp → St w no hp w' → K' v' w') → pCall Try.prog 56 [.int .i64 x] w K' := by
        intro x w K' hk
        refine F56_pc ?_
        unfold F56
        try simp (disch := omega) only [pV_some, pE_some, pU_some, st_add, st_sub, st_mul, st_quo, st_rem, st_eql, st_neq, st_lss, st_leq, st_gtr, st_geq, st_seq, st_sneq, st_beq, st_bneq, st_not, st_neg, st_lenS, st_capS, st_lenT, st_fldA, st_conv, st_pick, st_ext0, st_ext1, st_ext2, st_ext3, st_nilS, st_nilP, st_nilF, st_nilE, st_nilN, st_none, st_some, st_true, st_false, nilC, add_lit, Nat.zero_add, Nat.add_zero, nth0, nth1, nth2, nth3, nth4, nth5, nth6, List.getElem?_cons_succ, List.getElem?_cons_zero, cond_true, cond_false, pSC_orp, pSC_andp, wrap_i64, Bool.not_true, Bool.not_false, uw_wrap]
        exact F55_pc (number_spec (uw x) 8 (by omega) hk)
      -- a number more
      have more : ∀ (x : Int) (v3 : Value) (xs : List Nat) (hq3 r : HP) (w : World) {ty : TypeId} {K' : Value → World → Prop}, OwnB v3 xs hq3 → St w0 no (hq3 ++ r) w → xs.length ≤ 4294967296 → (∀ v' hq' w', OwnB v' (xs ++ n8 x) hq' → St w0 no (hq' ++ r) w' → K' v' w') →
          pCall Try.prog 56 [.int .i64 x] w fun t34 w => pE (semE Try.prog (Builtin.append_ #[32, 32] ty #[v3, t34]) w) K' := by
        intro x v3 xs hq3 r w ty K' ho3 hs3 hl3 hk
        refine num x w (fun v4 hp4 w4 ho4 hs4 => ?_)
        refine append_bys (h := hp4 ++ r) ho3 ((hs3.call hs4).re (fun _ => by simp only [cnt_nil, cnt_cons, cnt_append]; omega)) (ho4.reads (h := []) (hs4.re (fun _ => by simp only [cnt_nil, cnt_cons, cnt_append]; omega))) (by rw [n8_len]; omega) (fun v5 hp5 w5 ho5 hs5 => ?_)
        exact hk v5 hp5 w5 ho5 (hs5.re (fun _ => by simp only [cnt_nil, cnt_cons, cnt_append]; omega))
      have hs6' : St w0 no (hq2 ++ [(b5, ⟨[.int .i64 ps[i].1.t, .int .i64 ps[i].1.k, .int .i64 ps[i].1.g, ps[i].2], 42⟩)]) w6 := hs6.re (fun _ => by simp only [cnt_nil, cnt_cons, cnt_append]; omega)
      refine more _ _ _ _ _ _ ho2 hs6' (by omega) (fun v7 hq7 w7 ho7 hs7 => ?_)
      have hB7 := hs7.has (b5, ⟨[.int .i64 ps[i].1.t, .int .i64 ps[i].1.k, .int .i64 ps[i].1.g, ps[i].2], 42⟩) (by simp)
      try simp (disch := omega) only [pV_some, pE_some, pU_some, st_add, st_sub, st_mul, st_quo, st_rem, st_eql, st_neq, st_lss, st_leq, st_gtr, st_geq, st_seq, st_sneq, st_beq, st_bneq, st_not, st_neg, st_lenS, st_capS, st_lenT, st_fldA, st_conv, st_pick, st_ext0, st_ext1, st_ext2, st_ext3, st_nilS, st_nilP, st_nilF, st_nilE, st_nilN, st_none, st_some, st_true, st_false, nilC, add_lit, Nat.zero_add, Nat.add_zero, nth0, nth1, nth2, nth3, nth4, nth5, nth6, List.getElem?_cons_succ, List.getElem?_cons_zero, cond_true, cond_false, pSC_orp, pSC_andp, wrap_i64, Bool.not_true, Bool.not_false, hB7.ld]
      refine more _ _ _ _ _ _ ho7 hs7 (by simp only [List.length_append, n8_len] at hlen ⊢; omega) (fun v8 hq8 w8 ho8 hs8 => ?_)
      have hB8 := hs8.has (b5, ⟨[.int .i64 ps[i].1.t, .int .i64 ps[i].1.k, .int .i64 ps[i].1.g, ps[i].2], 42⟩) (by simp)
      try simp (disch := omega) only [pV_some, pE_some, pU_some, st_add, st_sub, st_mul, st_quo, st_rem, st_eql, st_neq, st_lss, st_leq, st_gtr, st_geq, st_seq, st_sneq, st_beq, st_bneq, st_not, st_neg, st_lenS, st_capS, st_lenT, st_fldA, st_conv, st_pick, st_ext0, st_ext1, st_ext2, st_ext3, st_nilS, st_nilP, st_nilF, st_nilE, st_nilN, st_none, st_some, st_true, st_false, nilC, add_lit, Nat.zero_add, Nat.add_zero, nth0, nth1, nth2, nth3, nth4, nth5, nth6, List.getElem?_cons_succ, List.getElem?_cons_zero, cond_true, cond_false, pSC_orp, pSC_andp, wrap_i64, Bool.not_true, Bool.not_false, hB8.ld]
      refine more _ _ _ _ _ _ ho8 hs8 (by simp only [List.length_append, n8_len] at hlen ⊢; omega) (fun v9 hq9 w9 ho9 hs9 => ?_)
      have hB9 := hs9.has (b5, ⟨[.int .i64 ps[i].1.t, .int .i64 ps[i].1.k, .int .i64 ps[i].1.g, ps[i].2], 42⟩) (by simp)
      try simp (disch := omega) only [pV_some, pE_some, pU_some, st_add, st_sub, st_mul, st_quo, st_rem, st_eql, st_neq, st_lss, st_leq, st_gtr, st_geq, st_seq, st_sneq, st_beq, st_bneq, st_not, st_neg, st_lenS, st_capS, st_lenT, st_fldA, st_conv, st_pick, st_ext0, st_ext1, st_ext2, st_ext3, st_nilS, st_nilP, st_nilF, st_nilE, st_nilN, st_none, st_some, st_true, st_false, nilC, add_lit, Nat.zero_add, Nat.add_zero, nth0, nth1, nth2, nth3, nth4, nth5, nth6, List.getElem?_cons_succ, List.getElem?_cons_zero, cond_true, cond_false, pSC_orp, pSC_andp, wrap_i64, Bool.not_true, Bool.not_false, hB9.ld, hd.len, wrap_u64]
      rw [Nat.mod_eq_of_lt (show ps[i].1.d.length < 18446744073709551616 by omega)]
      refine F55_pc (number_spec ps[i].1.d.length 4 (by omega) (fun v10 hp10 w10 ho10 hs10 => ?_))
      refine append_bys (h := hp10 ++ [(b5, ⟨[.int .i64 ps[i].1.t, .int .i64 ps[i].1.k, .int .i64 ps[i].1.g, ps[i].2], 42⟩)]) ho9 ((hs9.call hs10).re (fun _ => by simp only [cnt_nil, cnt_cons, cnt_append]; omega)) (ho10.reads (h := []) (hs10.re (fun _ => by simp only [cnt_nil, cnt_cons, cnt_append]; omega))) (by simp only [List.length_append, n8_len, numTop_len] at hlen ⊢; omega) (fun v11 hq11 w11 ho11 hs11 => ?_)
      refine pLoop_up (I := fun j vs w' => ∃ (v : Value) (hq : HP), vs = [v, .int .i64 (j : Nat)] ∧ OwnB v (n4 ps.length ++ encs (insOf (ps.take i)) ++ n8 ps[i].1.t ++ n8 ps[i].1.k ++ n8 ps[i].1.g ++ n4 ps[i].1.d.length ++ encD (ps[i].1.d.take j)) hq ∧ St w0 no (hq ++ ([(b5, ⟨[.int .i64 ps[i].1.t, .int .i64 ps[i].1.k, .int .i64 ps[i].1.g, ps[i].2], 42⟩)] : HP)) w') ps[i].1.d.length 0 (Nat.zero_le _) ⟨v11, hq11, rfl, ?_, hs11.re (fun _ => by simp only [cnt_nil, cnt_cons, cnt_append]; omega)⟩ ?_
      · have : encD (ps[i].1.d.take 0) = [] := rfl
        rw [this, List.append_nil]
        exact ho11
      rintro j vs w12 hj ⟨v12, hq12, rfl, ho12, hs12⟩ go2 hgo2
      have hB12 := hs12.has (b5, ⟨[.int .i64 ps[i].1.t, .int .i64 ps[i].1.k, .int .i64 ps[i].1.g, ps[i].2], 42⟩) (by simp)
      try simp (disch := omega) only [pV_some, pE_some, pU_some, st_add, st_sub, st_mul, st_quo, st_rem, st_eql, st_neq, st_lss, st_leq, st_gtr, st_geq, st_seq, st_sneq, st_beq, st_bneq, st_not, st_neg, st_lenS, st_capS, st_lenT, st_fldA, st_conv, st_pick, st_ext0, st_ext1, st_ext2, st_ext3, st_nilS, st_nilP, st_nilF, st_nilE, st_nilN, st_none, st_some, st_true, st_false, nilC, add_lit, Nat.zero_add, Nat.add_zero, nth0, nth1, nth2, nth3, nth4, nth5, nth6, List.getElem?_cons_succ, List.getElem?_cons_zero, cond_true, cond_false, pSC_orp, pSC_andp, wrap_i64, Bool.not_true, Bool.not_false, hB12.ld, hd.len]
      refine pIf_of (fun hlt2 => ?_) (fun hlt2 => ?_)
      · have hlt2 : j < ps[i].1.d.length := by simpa using hlt2
        have hx := List.getElem?_eq_getElem hlt2
        obtain ⟨ad, i2, c2⟩ := (hd.gr hs12.tr).at1 (ints_at hx) (x := j) rfl
        try simp (disch := omega) only [pV_some, pE_some, pU_some, st_add, st_sub, st_mul, st_quo, st_rem, st_eql, st_neq, st_lss, st_leq, st_gtr, st_geq, st_seq, st_sneq, st_beq, st_bneq, st_not, st_neg, st_lenS, st_capS, st_lenT, st_fldA, st_conv, st_pick, st_ext0, st_ext1, st_ext2, st_ext3, st_nilS, st_nilP, st_nilF, st_nilE, st_nilN, st_none, st_some, st_true, st_false, nilC, add_lit, Nat.zero_add, Nat.add_zero, nth0, nth1, nth2, nth3, nth4, nth5, nth6, List.getElem?_cons_succ, List.getElem?_cons_zero, cond_true, cond_false, pSC_orp, pSC_andp, wrap_i64, Bool.not_true, Bool.not_false, i2, ld1r c2]
        refine more _ _ _ _ _ _ ho12 hs12 (by simp only [List.length_append, n8_len, n4_len, encD_len, List.length_take] at hlen ⊢; omega) (fun v13 hq13 w13 ho13 hs13 => ?_)
        refine hgo2 _ _ hlt2 ⟨v13, hq13, by simp, ?_, hs13⟩
        have e : encD (ps[i].1.d.take (j + 1)) = encD (ps[i].1.d.take j) ++ n8 ps[i].1.d[j] := by
          rw [List.take_add_one, hx, encD_append]; congr 1
        rw [e, ← List.append_assoc]
        exact ho13
      · obtain rfl : j = ps[i].1.d.length := by simp at hlt2; omega
        have ee : n4 ps.length ++ encs (insOf (ps.take i)) ++ n8 ps[i].1.t ++ n8 ps[i].1.k ++ n8 ps[i].1.g ++ n4 ps[i].1.d.length ++ encD (ps[i].1.d.take ps[i].1.d.length) = n4 ps.length ++ encs (insOf (ps.take (i + 1))) := by
          rw [e, List.take_length]; simp [enc1]
        rw [ee] at ho12
        refine hgo _ _ hlt ⟨v12, hq12, by simp, ho12, hs12.re (fun _ => by simp only [cnt_nil, cnt_cons, cnt_append]; omega), ?_⟩
        rw [e]
        simp only [List.length_append, enc1_len] at hbig ⊢
        omega
  · obtain rfl : i = ps.length := by simp at hlt; omega
    rw [List.take_length] at ho2 hlen
    rw [← eL] at ho2 hlen
    exact k2 hlen v2 hq2 w2 ho2 hs2

theorem refencode_spec {w0 : World} {v : Value} {ps : List (In × Value)} (hp : InsR w0 v ps) (hB : ∀ p ∈ ps, p.1.d.length ≤ 1048576) {K : Value → World → Prop}
    (k1 : EncBad (insOf ps) → ∀ w', St w0 no [] w' → K (.tuple #[.slice none 0 0, .int .i64 1]) w')
    (k2 : ¬ EncBad (insOf ps) → ∀ v' h w', OwnB v' (sealed 3 (encL (insOf ps))) h → St w0 no h w' → K (.tuple #[v', .int .i64 0]) w') : F22 v w0 K := by
  unfold F22
  have hl : (insOf ps).length = ps.length := by simp [insOf]
  try simp (disch := omega) only [pV_some, pE_some, pU_some, st_add, st_sub, st_mul, st_quo, st_rem, st_eql, st_neq, st_lss, st_leq, st_gtr, st_geq, st_seq, st_sneq, st_beq, st_bneq, st_not, st_neg, st_lenS, st_capS, st_lenT, st_fldA, st_conv, st_pick, st_ext0, st_ext1, st_ext2, st_ext3, st_nilS, st_nilP, st_nilF, st_nilE, st_nilN, st_none, st_some, st_true, st_false, nilC, add_lit, Nat.zero_add, Nat.add_zero, nth0, nth1, nth2, nth3, nth4, nth5, nth6, List.getElem?_cons_succ, List.getElem?_cons_zero, cond_true, cond_false, pSC_orp, pSC_andp, wrap_i64, Bool.not_true, Bool.not_false, hp.c.len]
  refine pIf_of (fun h => k1 (.inl (by simp at h; omega)) w0 (St.nil _ _)) (fun h => ?_)
  have h : ps.length ≤ 65536 := by simp at h; omega
  refine F41_pc (body_spec hp hB h (fun hb w1 hs1 => ?_) (fun hb v1 h1 w1 ho1 hs1 => ?_))
  · try simp (disch := omega) only [pV_some, pE_some, pU_some, st_add, st_sub, st_mul, st_quo, st_rem, st_eql, st_neq, st_lss, st_leq, st_gtr, st_geq, st_seq, st_sneq, st_beq, st_bneq, st_not, st_neg, st_lenS, st_capS, st_lenT, st_fldA, st_conv, st_pick, st_ext0, st_ext1, st_ext2, st_ext3, st_nilS, st_nilP, st_nilF, st_nilE, st_nilN, st_none, st_some, st_true, st_false, nilC, add_lit, Nat.zero_add, Nat.add_zero, nth0, nth1, nth2, nth3, nth4, nth5, nth6, List.getElem?_cons_succ, List.getElem?_cons_zero, cond_true, cond_false, pSC_orp, pSC_andp, wrap_i64, Bool.not_true, Bool.not_false]
    exact k1 (.inr hb) w1 hs1
  · try simp (disch := omega) only [pV_some, pE_some, pU_some, st_add, st_sub, st_mul, st_quo, st_rem, st_eql, st_neq, st_lss, st_leq, st_gtr, st_geq, st_seq, st_sneq, st_beq, st_bneq, st_not, st_neg, st_lenS, st_capS, st_lenT, st_fldA, st_conv, st_pick, st_ext0, st_ext1, st_ext2, st_ext3, st_nilS, st_nilP, st_nilF, st_nilE, st_nilN, st_none, st_some, st_true, st_false, nilC, add_lit, Nat.zero_add, Nat.add_zero, nth0, nth1, nth2, nth3, nth4, nth5, nth6, List.getElem?_cons_succ, List.getElem?_cons_zero, cond_true, cond_false, pSC_orp, pSC_andp, wrap_i64, Bool.not_true, Bool.not_false]
    refine F42_pc (refseal_spec (ho1.reads (h := []) (hs1.re (fun _ => by simp only [cnt_nil, cnt_cons, cnt_append]; omega))) (by omega) 3 (by omega) (encL_lt _) (fun h => ?_) (fun h v5 hp5 w5 ho5 hs5 => ?_))
    · omega
    · try simp (disch := omega) only [pV_some, pE_some, pU_some, st_add, st_sub, st_mul, st_quo, st_rem, st_eql, st_neq, st_lss, st_leq, st_gtr, st_geq, st_seq, st_sneq, st_beq, st_bneq, st_not, st_neg, st_lenS, st_capS, st_lenT, st_fldA, st_conv, st_pick, st_ext0, st_ext1, st_ext2, st_ext3, st_nilS, st_nilP, st_nilF, st_nilE, st_nilN, st_none, st_some, st_true, st_false, nilC, add_lit, Nat.zero_add, Nat.add_zero, nth0, nth1, nth2, nth3, nth4, nth5, nth6, List.getElem?_cons_succ, List.getElem?_cons_zero, cond_true, cond_false, pSC_orp, pSC_andp, wrap_i64, Bool.not_true, Bool.not_false]
      exact k2 (fun hb => by rcases hb with hb | hb <;> omega) v5 hp5 w5 ho5 ((hs1.call hs5).re (fun _ => by simp only [cnt_nil, cnt_cons, cnt_append]; omega))
end Go.Proofs.Ytcghhhjklihpkaa
