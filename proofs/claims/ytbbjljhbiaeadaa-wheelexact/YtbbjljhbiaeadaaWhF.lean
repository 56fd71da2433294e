/- wheel: Next. -/
import Derived.Test.YtbbjljhbiaeadaaWhE
set_option linter.unusedSimpArgs false
set_option linter.unusedVariables false
set_option maxRecDepth 100000
namespace Go.Proofs.Ytbbjljhbiaeadaa
open Go.Bk Go.RowKit

theorem dig_ge {now t l : Nat} (h : now ≤ t) (hl : t / 64 ^ (l + 1) = now / 64 ^ (l + 1)) : dig now l ≤ dig t l := by
  have h1 := div_mono h l
  rw [div_split t l, div_split now l, hl] at h1
  omega
theorem lt_of_div {a b l : Nat} (h : a / 64 ^ l < b / 64 ^ l) : a < b := by
  rcases Nat.lt_or_ge a b with h' | h'
  · exact h'
  · have := div_mono h' l; omega
/-- A timer of a lower level, or of a lower slot of the same one, comes first. -/
theorem first_lev {now a b : Nat} (hb : now ≤ b) (h : lev now a < lev now b) : a < b := by
  have ha := lev_is now a
  have hb2 := lev_is now b
  have h1 := div_up ha.1 (show lev now a + 1 ≤ lev now b by omega)
  have h2 := div_mono hb (lev now b)
  rcases hb2.2 with h0 | h0
  · omega
  · exact lt_of_div (l := lev now b) (by rw [h1]; omega)
theorem first_dig {now a b : Nat} (h : lev now a = lev now b) (hd : dig a (lev now a) < dig b (lev now a)) : a < b := by
  have ha := (lev_is now a).1
  have hb := (lev_is now b).1
  rw [← h] at hb
  refine lt_of_div (l := lev now a) ?_
  rw [div_split a, div_split b, ha, hb]
  omega

theorem next_spec {w0 w : World} {M : Nat → Prop} {p now : Nat} {T : List (Int × Int)} {hp r : HP} (hw : WInv p now T hp) (hs : St w0 M (hp ++ r) w) {K : Value → World → Prop}
    (k1 : (∀ id, mget T id = none) → ∀ w', St w0 M (hp ++ r) w' → K (.tuple #[.int .i64 0, .bool false]) w')
    (k2 : ∀ t, (∃ id, mget T id = some t) → (∀ id t', mget T id = some t' → t ≤ t') → ∀ w', St w0 M (hp ++ r) w' → K (.tuple #[.int .i64 t, .bool true]) w') : F12 (.pointer (some ⟨p, 0, none⟩)) w K := by
  unfold F12
  obtain ⟨rs, ⟨m, hm, hr, ha⟩, hi⟩ := hw
  have hok := hi.ok
  have hn := hok.n
  refine pLoop_up (I := fun l vs w' => vs = [.int .i64 (l : Nat)] ∧ St w0 M (hp ++ r) w' ∧ ∀ id t, mget T id = some t → l ≤ lev now t.toNat) 7 0 (by omega) ⟨rfl, hs, fun _ _ _ => Nat.zero_le _⟩ ?_
  rintro l vs w1 hl7 ⟨rfl, hs1, hlow⟩ go hgo
  try simp (disch := omega) only [pV_some, pE_some, pU_some, st_add, st_sub, st_mul, st_quo, st_rem, st_eql, st_neq, st_lss, st_leq, st_gtr, st_geq, st_seq, st_sneq, st_beq, st_bneq, st_not, st_neg, st_lenS, st_capS, st_lenT, st_fldA, st_conv, st_pick, st_ext0, st_ext1, st_ext2, st_ext3, st_nilS, st_nilP, st_nilF, st_nilE, st_nilN, st_none, st_some, st_true, st_false, nilC, add_lit, Nat.zero_add, Nat.add_zero, nth0, nth1, nth2, nth3, nth4, nth5, nth6, List.getElem?_cons_succ, List.getElem?_cons_zero, cond_true, cond_false, pSC_orp, pSC_andp, wrap_i64, Bool.not_true, Bool.not_false]
  refine pIf_of (fun hlt => ?_) (fun hlt => ?_)
  · have hlt : l < 7 := by simp at hlt; omega
    try simp (disch := omega) only [pV_some, pE_some, pU_some, st_add, st_sub, st_mul, st_quo, st_rem, st_eql, st_neq, st_lss, st_leq, st_gtr, st_geq, st_seq, st_sneq, st_beq, st_bneq, st_not, st_neg, st_lenS, st_capS, st_lenT, st_fldA, st_conv, st_pick, st_ext0, st_ext1, st_ext2, st_ext3, st_nilS, st_nilP, st_nilF, st_nilE, st_nilN, st_none, st_some, st_true, st_false, nilC, add_lit, Nat.zero_add, Nat.add_zero, nth0, nth1, nth2, nth3, nth4, nth5, nth6, List.getElem?_cons_succ, List.getElem?_cons_zero, cond_true, cond_false, pSC_orp, pSC_andp, wrap_i64, Bool.not_true, Bool.not_false, ld_now (ha.has hs1)]
    refine F26_pc (digit_spec now l (by omega) (by omega) ?_)
    have hd := dig_lt now l
    have e64 : (64 : Int) - ((dig now l : Nat) : Int) = ((64 - dig now l : Nat) : Int) := by omega
    try simp (disch := omega) only [pV_some, pE_some, pU_some, st_add, st_sub, st_mul, st_quo, st_rem, st_eql, st_neq, st_lss, st_leq, st_gtr, st_geq, st_seq, st_sneq, st_beq, st_bneq, st_not, st_neg, st_lenS, st_capS, st_lenT, st_fldA, st_conv, st_pick, st_ext0, st_ext1, st_ext2, st_ext3, st_nilS, st_nilP, st_nilF, st_nilE, st_nilN, st_none, st_some, st_true, st_false, nilC, add_lit, Nat.zero_add, Nat.add_zero, nth0, nth1, nth2, nth3, nth4, nth5, nth6, List.getElem?_cons_succ, List.getElem?_cons_zero, cond_true, cond_false, pSC_orp, pSC_andp, wrap_i64, Bool.not_true, Bool.not_false, e64]
    refine pLoop_up (I := fun k vs w' => vs = [.int .i64 (k : Nat)] ∧ St w0 M (hp ++ r) w' ∧ ∀ id t, mget T id = some t → lev now t.toNat = l → dig now l + k ≤ dig t.toNat l) (64 - dig now l) 0 (by omega) ⟨rfl, hs1, ?_⟩ ?_
    · intro id t hg hl
      have ht := hok.t id t hg
      have hli := (lev_is now t.toNat).1
      rw [hl] at hli
      have := dig_ge (now := now) (t := t.toNat) (by omega) hli
      omega
    rintro kk vs w2 hkk ⟨rfl, hs2, hdig⟩ go2 hgo2
    try simp (disch := omega) only [pV_some, pE_some, pU_some, st_add, st_sub, st_mul, st_quo, st_rem, st_eql, st_neq, st_lss, st_leq, st_gtr, st_geq, st_seq, st_sneq, st_beq, st_bneq, st_not, st_neg, st_lenS, st_capS, st_lenT, st_fldA, st_conv, st_pick, st_ext0, st_ext1, st_ext2, st_ext3, st_nilS, st_nilP, st_nilF, st_nilE, st_nilN, st_none, st_some, st_true, st_false, nilC, add_lit, Nat.zero_add, Nat.add_zero, nth0, nth1, nth2, nth3, nth4, nth5, nth6, List.getElem?_cons_succ, List.getElem?_cons_zero, cond_true, cond_false, pSC_orp, pSC_andp, wrap_i64, Bool.not_true, Bool.not_false]
    refine pIf_of (fun hlt2 => ?_) (fun hlt2 => ?_)
    · have hlt2 : kk < 64 - dig now l := by simp at hlt2; omega
      refine pDraw_st hs2 (fun w3 hs3 _ => ?_)
      try simp (disch := omega) only [pV_some, pE_some, pU_some, st_add, st_sub, st_mul, st_quo, st_rem, st_eql, st_neq, st_lss, st_leq, st_gtr, st_geq, st_seq, st_sneq, st_beq, st_bneq, st_not, st_neg, st_lenS, st_capS, st_lenT, st_fldA, st_conv, st_pick, st_ext0, st_ext1, st_ext2, st_ext3, st_nilS, st_nilP, st_nilF, st_nilE, st_nilN, st_none, st_some, st_true, st_false, nilC, add_lit, Nat.zero_add, Nat.add_zero, nth0, nth1, nth2, nth3, nth4, nth5, nth6, List.getElem?_cons_succ, List.getElem?_cons_zero, cond_true, cond_false, pSC_orp, pSC_andp, wrap_i64, Bool.not_true, Bool.not_false, ld_now (ha.has hs3)]
      refine F26_pc (digit_spec now l (by omega) (by omega) ?_)
      have hj : l * 64 + (dig now l + kk) < 448 := by omega
      have e2 : ((dig now l : Nat) : Int) + (kk : Int) = ((dig now l + kk : Nat) : Int) := by omega
      have i1 : ∀ o : Nat, idxA 64 7 (.pointer (some ⟨p, o, none⟩)) (.int .i64 ((l : Nat) : Int)) = some (.pointer (some ⟨p, o + l * 64, none⟩)) := fun o => by
        simp only [idxA]; rw [if_pos (by omega), add_lit]; simp
      have i2 : ∀ o : Nat, idxA 1 64 (.pointer (some ⟨p, o, none⟩)) (.int .i64 ((dig now l + kk : Nat) : Int)) = some (.pointer (some ⟨p, o + (dig now l + kk), none⟩)) := fun o => by
        simp only [idxA]; rw [if_pos (by omega), add_lit]; simp
      obtain ⟨q, kq, g, hq, hown, hs4, _⟩ := ha.focus hs3 hj
      have hld := ld_ring (ha.has hs3) hq
      rw [← Nat.add_assoc] at hld
      try simp (disch := omega) only [pV_some, pE_some, pU_some, st_add, st_sub, st_mul, st_quo, st_rem, st_eql, st_neq, st_lss, st_leq, st_gtr, st_geq, st_seq, st_sneq, st_beq, st_bneq, st_not, st_neg, st_lenS, st_capS, st_lenT, st_fldA, st_conv, st_pick, st_ext0, st_ext1, st_ext2, st_ext3, st_nilS, st_nilP, st_nilF, st_nilE, st_nilN, st_none, st_some, st_true, st_false, nilC, add_lit, Nat.zero_add, Nat.add_zero, nth0, nth1, nth2, nth3, nth4, nth5, nth6, List.getElem?_cons_succ, List.getElem?_cons_zero, cond_true, cond_false, pSC_orp, pSC_andp, wrap_i64, Bool.not_true, Bool.not_false, e2, i1, i2, hld, hown.len]
      have hq2 : (rs.map (·.2))[l * 64 + (dig now l + kk)]? = some q.2 := by rw [List.getElem?_map, hq]; rfl
      obtain ⟨hnd, hids⟩ := hi.pl.2 _ _ hq2
      have hqlen := hi.len q (List.mem_of_getElem? hq)
      -- who lies there
      have hin : ∀ id t, mget T id = some t → (id ∈ q.2 ↔ lev now t.toNat = l ∧ dig t.toNat l = dig now l + kk) := by
        intro id t hg
        rw [hids]
        unfold posT
        rw [hg]
        simp only [Option.map_some, Option.some.injEq]
        constructor
        · intro h
          obtain ⟨h1, h2⟩ := slot_eq (d := dig now l + kk) (by omega) h
          exact ⟨h1, h2⟩
        · rintro ⟨h1, h2⟩
          unfold slot; rw [h1, h2]
      have hmem : ∀ x ∈ q.2, ∃ t, mget T x = some t := by
        intro x hx
        have := posT_some ((hids x).1 hx)
        cases hg : mget T x with
        | none => exact absurd hg this
        | some t => exact ⟨t, rfl⟩
      refine pIf_of (fun he => ?_) (fun he => ?_)
      · have he : q.2 = [] := List.eq_nil_of_length_eq_zero (by simp at he; simpa using he)
        try simp (disch := omega) only [pV_some, pE_some, pU_some, st_add, st_sub, st_mul, st_quo, st_rem, st_eql, st_neq, st_lss, st_leq, st_gtr, st_geq, st_seq, st_sneq, st_beq, st_bneq, st_not, st_neg, st_lenS, st_capS, st_lenT, st_fldA, st_conv, st_pick, st_ext0, st_ext1, st_ext2, st_ext3, st_nilS, st_nilP, st_nilF, st_nilE, st_nilN, st_none, st_some, st_true, st_false, nilC, add_lit, Nat.zero_add, Nat.add_zero, nth0, nth1, nth2, nth3, nth4, nth5, nth6, List.getElem?_cons_succ, List.getElem?_cons_zero, cond_true, cond_false, pSC_orp, pSC_andp, wrap_i64, Bool.not_true, Bool.not_false]
        refine hgo2 _ _ hlt2 ⟨by simp, hs3, fun id t hg hl => ?_⟩
        have h1 := hdig id t hg hl
        have h2 : dig t.toNat l ≠ dig now l + kk := fun h => by
          have := (hin id t hg).2 ⟨hl, h⟩
          rw [he] at this; cases this
        omega
      · have he : q.2 ≠ [] := fun h => by rw [h] at he; simp at he
        have hpos : 0 < q.2.length := List.length_pos_iff.2 he
        refine pDraw_st hs3 (fun w5 hs5 _ => ?_)
        have hx0 := List.getElem?_eq_getElem hpos
        obtain ⟨q', kq', g', hq', hown', hs6, _⟩ := ha.focus hs5 hj
        obtain rfl : q' = q := by rw [hq] at hq'; exact (Option.some.inj hq').symm
        have hrd : RdI w5 q'.1 q'.2 := hown'.reads hs6
        obtain ⟨ad, j1, c1⟩ := hrd.at1 (ints_at hx0) (x := 0) rfl
        obtain ⟨t0, hg0⟩ := hmem _ (List.getElem_mem hpos)
        have hlk := fun x => (mget_spec ty_map ha.m (ha.map hs5) x).2
        have hlk0 := hlk q'.2[0]
        rw [hg0] at hlk0
        try simp (disch := omega) only [pV_some, pE_some, pU_some, st_add, st_sub, st_mul, st_quo, st_rem, st_eql, st_neq, st_lss, st_leq, st_gtr, st_geq, st_seq, st_sneq, st_beq, st_bneq, st_not, st_neg, st_lenS, st_capS, st_lenT, st_fldA, st_conv, st_pick, st_ext0, st_ext1, st_ext2, st_ext3, st_nilS, st_nilP, st_nilF, st_nilE, st_nilN, st_none, st_some, st_true, st_false, nilC, add_lit, Nat.zero_add, Nat.add_zero, nth0, nth1, nth2, nth3, nth4, nth5, nth6, List.getElem?_cons_succ, List.getElem?_cons_zero, cond_true, cond_false, pSC_orp, pSC_andp, wrap_i64, Bool.not_true, Bool.not_false, ld_map (ha.has hs5), j1, ld1r c1, hlk0, Option.getD_some]
        refine pLoop_up (I := fun i vs w' => ∃ mn, vs = [.int .i64 mn, .int .i64 (i : Nat)] ∧ w' = w5 ∧ (∃ id ∈ q'.2, mget T id = some mn) ∧ ∀ x ∈ q'.2.take i, ∀ t, mget T x = some t → mn ≤ t) q'.2.length 0 (Nat.zero_le _) ⟨t0, rfl, rfl, ⟨_, List.getElem_mem hpos, hg0⟩, by simp⟩ ?_
        rintro i vs w7 hi2 ⟨mn, rfl, rfl, hmn, hle⟩ go3 hgo3
        try simp (disch := omega) only [pV_some, pE_some, pU_some, st_add, st_sub, st_mul, st_quo, st_rem, st_eql, st_neq, st_lss, st_leq, st_gtr, st_geq, st_seq, st_sneq, st_beq, st_bneq, st_not, st_neg, st_lenS, st_capS, st_lenT, st_fldA, st_conv, st_pick, st_ext0, st_ext1, st_ext2, st_ext3, st_nilS, st_nilP, st_nilF, st_nilE, st_nilN, st_none, st_some, st_true, st_false, nilC, add_lit, Nat.zero_add, Nat.add_zero, nth0, nth1, nth2, nth3, nth4, nth5, nth6, List.getElem?_cons_succ, List.getElem?_cons_zero, cond_true, cond_false, pSC_orp, pSC_andp, wrap_i64, Bool.not_true, Bool.not_false]
        refine pIf_of (fun hlt3 => ?_) (fun hlt3 => ?_)
        · have hlt3 : i < q'.2.length := by simpa using hlt3
          have hx := List.getElem?_eq_getElem hlt3
          obtain ⟨ad2, j2, c2⟩ := hrd.at1 (ints_at hx) (x := i) rfl
          obtain ⟨ti, hgi⟩ := hmem _ (List.getElem_mem hlt3)
          have hlki := hlk q'.2[i]
          rw [hgi] at hlki
          try simp (disch := omega) only [pV_some, pE_some, pU_some, st_add, st_sub, st_mul, st_quo, st_rem, st_eql, st_neq, st_lss, st_leq, st_gtr, st_geq, st_seq, st_sneq, st_beq, st_bneq, st_not, st_neg, st_lenS, st_capS, st_lenT, st_fldA, st_conv, st_pick, st_ext0, st_ext1, st_ext2, st_ext3, st_nilS, st_nilP, st_nilF, st_nilE, st_nilN, st_none, st_some, st_true, st_false, nilC, add_lit, Nat.zero_add, Nat.add_zero, nth0, nth1, nth2, nth3, nth4, nth5, nth6, List.getElem?_cons_succ, List.getElem?_cons_zero, cond_true, cond_false, pSC_orp, pSC_andp, wrap_i64, Bool.not_true, Bool.not_false, j2, ld1r c2, ld_map (ha.has hs5), hlki, Option.getD_some, st_min]
          refine hgo3 _ _ hlt3 ⟨min mn ti, by simp, rfl, ?_, ?_⟩
          · by_cases h : mn ≤ ti
            · rw [Int.min_eq_left h]; exact hmn
            · rw [Int.min_eq_right (by omega)]; exact ⟨_, List.getElem_mem hlt3, hgi⟩
          · intro x hx' t hgt
            rw [List.take_add_one, hx] at hx'
            rcases List.mem_append.1 hx' with h | h
            · have := hle x h t hgt; omega
            · simp at h; subst h
              rw [hgi] at hgt; cases hgt; omega
        · obtain rfl : i = q'.2.length := by simp at hlt3; omega
          rw [List.take_length] at hle
          obtain ⟨id, hidm, hgid⟩ := hmn
          refine k2 mn ⟨id, hgid⟩ (fun id' t' hg' => ?_) _ hs5
          obtain ⟨h1, h2⟩ := (hin id mn hgid).1 hidm
          have htm := hok.t id mn hgid
          have ht' := hok.t id' t' hg'
          have hlow' := hlow id' t' hg'
          rcases Nat.lt_or_ge l (lev now t'.toNat) with h3 | h3
          · have := first_lev (now := now) (a := mn.toNat) (b := t'.toNat) (by omega) (by omega)
            omega
          · have h3 : lev now t'.toNat = l := by omega
            have h4 := hdig id' t' hg' h3
            rcases Nat.lt_or_ge (dig now l + kk) (dig t'.toNat l) with h5 | h5
            · have := first_dig (now := now) (a := mn.toNat) (b := t'.toNat) (by omega) (by rw [h1, h2]; exact h5)
              omega
            · exact hle id' ((hin id' t' hg').2 ⟨h3, by omega⟩) t' hg'
    · obtain rfl : kk = 64 - dig now l := by simp at hlt2; omega
      try simp (disch := omega) only [pV_some, pE_some, pU_some, st_add, st_sub, st_mul, st_quo, st_rem, st_eql, st_neq, st_lss, st_leq, st_gtr, st_geq, st_seq, st_sneq, st_beq, st_bneq, st_not, st_neg, st_lenS, st_capS, st_lenT, st_fldA, st_conv, st_pick, st_ext0, st_ext1, st_ext2, st_ext3, st_nilS, st_nilP, st_nilF, st_nilE, st_nilN, st_none, st_some, st_true, st_false, nilC, add_lit, Nat.zero_add, Nat.add_zero, nth0, nth1, nth2, nth3, nth4, nth5, nth6, List.getElem?_cons_succ, List.getElem?_cons_zero, cond_true, cond_false, pSC_orp, pSC_andp, wrap_i64, Bool.not_true, Bool.not_false]
      refine hgo _ _ hlt ⟨by simp, hs2, fun id t hg => ?_⟩
      have h1 := hlow id t hg
      have h2 : lev now t.toNat ≠ l := fun h => by
        have := hdig id t hg h
        have := dig_lt t.toNat l
        omega
      omega
  · obtain rfl : l = 7 := by simp at hlt; omega
    refine k1 (fun id => ?_) w1 hs1
    cases hg : mget T id with
    | none => rfl
    | some t =>
      have h1 := hlow id t hg
      have ht := hok.t id t hg
      have := lev_lt (now := now) (t := t.toNat) (by omega) (by omega)
      omega
end Go.Proofs.Ytbbjljhbiaeadaa
