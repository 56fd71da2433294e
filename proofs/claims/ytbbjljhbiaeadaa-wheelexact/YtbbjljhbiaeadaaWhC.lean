/- wheel: DeleteFunc, Cancel, Arm, When, Len, Now, New. -/
import Derived.Test.YtbbjljhbiaeadaaWhP
set_option linter.unusedSimpArgs false
set_option linter.unusedVariables false
set_option maxRecDepth 100000
namespace Go.Proofs.Ytbbjljhbiaeadaa
open Go.Bk Go.RowKit

/-- Writing one of one's own numbers. -/
theorem own_set {w0 w : World} {M : Nat → Prop} {r kk : HP} {s : Value} {d : List Int} (ho : OwnI s d kk) (hs : St w0 M (kk ++ r) w) {i : Nat} (hi : i < d.length) {x : Int} (hx : x = i) :
    ∃ ad, idxV 1 s (.int .i64 x) = some (.pointer (some ad)) ∧ w.cell? ad = some (.int .i64 d[i]) ∧ ∀ (y : Int) (w1 : World) (K : World → Prop), St w0 M (kk ++ r) w1 → (∀ kk' w', OwnI s (d.set i y) kk' → St w0 M (kk' ++ r) w' → K w') → pU (stE 1 (.pointer (some ad)) (.int .i64 y) w1) K := by
  rcases ho.2 with ⟨_, h0, _⟩ | ⟨g, cap, sp, rfl, hn, hc, hcs, rfl⟩
  · omega
  · refine ⟨⟨g, 0 + i * 1, none⟩, idx_lit hi hx, ?_, fun y w1 K hs1 k => ?_⟩
    · rw [(hs.has _ (List.mem_cons_self ..)).cell]
      simp only [Nat.zero_add, Nat.mul_one]
      rw [List.getElem?_append_left (by rw [ints_len]; exact hi)]
      exact ints_at (List.getElem?_eq_getElem hi)
    · rw [Nat.zero_add, Nat.mul_one]
      refine pU_set hs1 rfl (ints (d.set i y) ++ sp) (by rw [List.length_append, ints_len]; omega) ?_ (fun w' hs' _ => k [(g, ⟨ints (d.set i y) ++ sp, (.t 3)⟩)] w' ?_ hs')
      · rw [List.set_append_left _ _ (by rw [ints_len]; exact hi)]
        simp [ints, List.map_set, I]
      · refine ⟨by simp [ints], .inr ⟨g, cap, sp, by simp, by simpa using hn, hc, ?_, rfl⟩⟩
        refine Nat.le_trans hcs (Nat.le_of_eq ?_)
        simp [ints]

theorem zeros_int (n : Nat) : (Builtin.zeroCells (Value.int IntKind.i64 0).cells n).toList = ints (List.replicate n 0) := by
  apply List.ext_getElem
  · simp [ints, size_zeroCells, Value.cells]
  · intro i h1 h2
    simp [Builtin.zeroCells, ints, I, Value.cells, Nat.mod_one]

/-- A tail cleared. -/
theorem clear_own {w0 w : World} {M : Nat → Prop} {r hp : HP} {v : Value} {xs : List Int} (ho : OwnI v xs hp) (hs : St w0 M (hp ++ r) w) {i : Nat} (hi : i < xs.length) {ty : TypeId} {K : Value → World → Prop}
    (k : ∀ hp' w', OwnI v (xs.take i ++ List.replicate (xs.length - i) 0) hp' → St w0 M (hp' ++ r) w' → K (.tuple #[]) w') :
    pV (slV 1 v (some (.int .i64 (i : Nat))) none none) fun x => pE (semE Try.prog (Builtin.clear_ #[23] ty #[x]) w) K := by
  rcases ho.2 with ⟨_, h0, _⟩ | ⟨g, cap, sp, rfl, hn, hc, hcs, rfl⟩
  · omega
  have hsl : slV 1 (.slice (some ⟨g, 0, none⟩) xs.length cap) (some (.int .i64 (i : Nat))) none none = some (.slice (some ⟨g, i, none⟩) (xs.length - i) (cap - i)) := by
    simp only [slV, bnd, hiD, Option.bind_some, Option.isNone_none, Option.isSome_none, Bool.and_false, Int.toNat_natCast, cond_true]
    rw [if_pos (by omega)]
    simp only [Option.bind_some, Bool.false_eq_true, if_false]
    rw [if_neg (by omega)]
    simp [add_lit]
  refine pV_eq hsl ?_
  have hB := hs.has _ (List.mem_cons_self ..)
  obtain ⟨w', h1, h2, h3⟩ := stC_row (ints (List.replicate (xs.length - i) 0)) 0 w (ints xs ++ sp) i hB (by simp [ints]; omega) (by
    intro u hu
    obtain ⟨y, _, rfl⟩ := List.mem_map.1 hu
    rfl)
  have hm : xs.length - i = (xs.length - i - 1) + 1 := by omega
  have hr : (Builtin.clear_ #[23] ty #[.slice (some ⟨g, i, none⟩) (xs.length - i) (cap - i)]).run Try.prog w = .ok (.tuple #[]) w' := by
    unfold Builtin.clear_
    obtain ⟨q, hq, _, _, hz⟩ := ty_int.i
    have hst := run_storeCells (P := Try.prog) _ _ _ _ _ h1
    rw [← zeros_int, hm] at hst
    rw [hm]
    have hzv : (zeroValue 3).run Try.prog w = .ok (.int .i64 0) w := look_run _ _ (look_zero hq hz)
    simp only [List.getElem?_toArray, List.getElem?_cons_zero, Sem.run_bind, run_underlying ty_int.t, Result.andThen, hzv, hst, Sem.run_pure]
  unfold pE semE
  rw [hr]
  refine k [(g, ⟨ints (xs.take i ++ List.replicate (xs.length - i) 0) ++ sp, (.t 3)⟩)] w' ⟨by simp [ints], .inr ⟨g, cap, sp, ?_, by simp; omega, hc, ?_, rfl⟩⟩ (hs.write h2 ?_)
  · congr 1; simp; omega
  · refine Nat.le_trans hcs (Nat.le_of_eq ?_); simp [ints]; omega
  · have : (ints xs ++ sp).take (i + 0) ++ ints (List.replicate (xs.length - i) 0) ++ (ints xs ++ sp).drop (i + 0 + (ints (List.replicate (xs.length - i) 0)).length) = ints (xs.take i ++ List.replicate (xs.length - i) 0) ++ sp := by
      rw [Nat.add_zero, List.take_append_of_le_length (by rw [ints_len]; omega), ints_append, ints_len, List.length_replicate]
      rw [show i + (xs.length - i) = (ints xs).length by rw [ints_len]; omega, List.drop_left]
      congr 2
      simp [ints, List.map_take]
    rw [this] at h3
    exact h3

/-- What is left without a number. -/
def drop1 (xs : List Int) (id : Int) : List Int := xs.filter fun x => decide (x ≠ id)

theorem cmp_spec {w0 w : World} {M : Nat → Prop} {h : HP} {b : Nat} {id : Int} (hs : St w0 M h w) (hb : (b, ⟨[.int .i64 id], (.t 3)⟩) ∈ h) (x : Int) {K : Value → World → Prop} (k : K (.bool (decide (x = id))) w) :
    pCallV Try.prog (.func (.func 29) #[] #[.pointer (some ⟨b, 0, none⟩)]) [.int .i64 x] w K := by
  refine pCallV_func (F29_pc ?_)
  unfold F29
  try simp (disch := omega) only [pV_some, pE_some, pU_some, st_add, st_sub, st_mul, st_quo, st_rem, st_eql, st_neq, st_lss, st_leq, st_gtr, st_geq, st_seq, st_sneq, st_beq, st_bneq, st_not, st_neg, st_lenS, st_capS, st_lenT, st_fldA, st_conv, st_pick, st_ext0, st_ext1, st_ext2, st_ext3, st_nilS, st_nilP, st_nilF, st_nilE, st_nilN, st_none, st_some, st_true, st_false, nilC, add_lit, Nat.zero_add, Nat.add_zero, nth0, nth1, nth2, nth3, nth4, nth5, nth6, List.getElem?_cons_succ, List.getElem?_cons_zero, cond_true, cond_false, pSC_orp, pSC_andp, wrap_i64, Bool.not_true, Bool.not_false, (hs.has _ hb).ld]
  exact k

theorem delfunc_spec {w0 w : World} {M : Nat → Prop} {r hp : HP} {v : Value} {xs : List Int} {b : Nat} {id : Int} (ho : OwnI v xs hp) (hs : St w0 M (hp ++ r) w) (hb : (b, ⟨[.int .i64 id], (.t 3)⟩) ∈ r) (hl : xs.length ≤ 4398046511104) {K : Value → World → Prop}
    (k : ∀ v' hp' w', OwnI v' (drop1 xs id) hp' → St w0 M (hp' ++ r) w' → K v' w') : F28 v (.func (.func 29) #[] #[.pointer (some ⟨b, 0, none⟩)]) w K := by
  unfold F28
  refine F38_pc ?_
  unfold F38
  have hr := ho.reads hs
  have hbm : (b, ⟨[.int .i64 id], (.t 3)⟩) ∈ hp ++ r := List.mem_append_right _ hb
  try simp (disch := omega) only [pV_some, pE_some, pU_some, st_add, st_sub, st_mul, st_quo, st_rem, st_eql, st_neq, st_lss, st_leq, st_gtr, st_geq, st_seq, st_sneq, st_beq, st_bneq, st_not, st_neg, st_lenS, st_capS, st_lenT, st_fldA, st_conv, st_pick, st_ext0, st_ext1, st_ext2, st_ext3, st_nilS, st_nilP, st_nilF, st_nilE, st_nilN, st_none, st_some, st_true, st_false, nilC, add_lit, Nat.zero_add, Nat.add_zero, nth0, nth1, nth2, nth3, nth4, nth5, nth6, List.getElem?_cons_succ, List.getElem?_cons_zero, cond_true, cond_false, pSC_orp, pSC_andp, wrap_i64, Bool.not_true, Bool.not_false, ho.len]
  refine pLoop_up (I := fun i vs w' => vs = [.int .i64 (i : Nat)] ∧ w' = w ∧ (∀ x ∈ xs.take i, x ≠ id)) xs.length 0 (Nat.zero_le _) ⟨rfl, rfl, by simp⟩ ?_
  rintro i vs w1 hi ⟨rfl, rfl, hne⟩ go hgo
  try simp (disch := omega) only [pV_some, pE_some, pU_some, st_add, st_sub, st_mul, st_quo, st_rem, st_eql, st_neq, st_lss, st_leq, st_gtr, st_geq, st_seq, st_sneq, st_beq, st_bneq, st_not, st_neg, st_lenS, st_capS, st_lenT, st_fldA, st_conv, st_pick, st_ext0, st_ext1, st_ext2, st_ext3, st_nilS, st_nilP, st_nilF, st_nilE, st_nilN, st_none, st_some, st_true, st_false, nilC, add_lit, Nat.zero_add, Nat.add_zero, nth0, nth1, nth2, nth3, nth4, nth5, nth6, List.getElem?_cons_succ, List.getElem?_cons_zero, cond_true, cond_false, pSC_orp, pSC_andp, wrap_i64, Bool.not_true, Bool.not_false]
  refine pIf_of (fun hlt => ?_) (fun hlt => ?_)
  · have hlt : i < xs.length := by simpa using hlt
    have hx := List.getElem?_eq_getElem hlt
    obtain ⟨ad, i1, c1⟩ := hr.at1 (ints_at hx) (x := i) rfl
    try simp (disch := omega) only [pV_some, pE_some, pU_some, st_add, st_sub, st_mul, st_quo, st_rem, st_eql, st_neq, st_lss, st_leq, st_gtr, st_geq, st_seq, st_sneq, st_beq, st_bneq, st_not, st_neg, st_lenS, st_capS, st_lenT, st_fldA, st_conv, st_pick, st_ext0, st_ext1, st_ext2, st_ext3, st_nilS, st_nilP, st_nilF, st_nilE, st_nilN, st_none, st_some, st_true, st_false, nilC, add_lit, Nat.zero_add, Nat.add_zero, nth0, nth1, nth2, nth3, nth4, nth5, nth6, List.getElem?_cons_succ, List.getElem?_cons_zero, cond_true, cond_false, pSC_orp, pSC_andp, wrap_i64, Bool.not_true, Bool.not_false, i1, ld1r c1]
    refine cmp_spec hs hbm xs[i] ?_
    refine pIf_of (fun he => ?_) (fun he => ?_)
    · have he : xs[i] = id := by simpa using he
      try simp (disch := omega) only [pV_some, pE_some, pU_some, st_add, st_sub, st_mul, st_quo, st_rem, st_eql, st_neq, st_lss, st_leq, st_gtr, st_geq, st_seq, st_sneq, st_beq, st_bneq, st_not, st_neg, st_lenS, st_capS, st_lenT, st_fldA, st_conv, st_pick, st_ext0, st_ext1, st_ext2, st_ext3, st_nilS, st_nilP, st_nilF, st_nilE, st_nilN, st_none, st_some, st_true, st_false, nilC, add_lit, Nat.zero_add, Nat.add_zero, nth0, nth1, nth2, nth3, nth4, nth5, nth6, List.getElem?_cons_succ, List.getElem?_cons_zero, cond_true, cond_false, pSC_orp, pSC_andp, wrap_i64, Bool.not_true, Bool.not_false]
      refine pIf_of (fun h => by simp at h) (fun _ => ?_)
      have hf0 : (xs.take (i + 1)).filter (fun x => decide (x ≠ id)) = xs.take i := by
        rw [List.take_add_one, hx, List.filter_append]
        have : (xs.take i).filter (fun x => decide (x ≠ id)) = xs.take i := by
          rw [List.filter_eq_self]; intro x hx'; simpa using hne x hx'
        rw [this]
        simp [he]
      refine pLoop_up (I := fun j vs w' => ∃ (a : Nat) (ys : List Int) (h : HP), vs = [.int .i64 (a : Nat), .int .i64 (j : Nat)] ∧ OwnI v ys h ∧ St w0 M (h ++ r) w' ∧ ys.length = xs.length ∧ a < j ∧ ys.take a = (xs.take j).filter (fun x => decide (x ≠ id)) ∧ ys.drop j = xs.drop j) xs.length (i + 1) (by omega) ⟨i, xs, hp, by simp, ho, hs, rfl, by omega, hf0.symm, rfl⟩ ?_
      rintro j vs w2 hj ⟨a, ys, h2, rfl, ho2, hs2, hyl, haj, ht, hd⟩ go2 hgo2
      try simp (disch := omega) only [pV_some, pE_some, pU_some, st_add, st_sub, st_mul, st_quo, st_rem, st_eql, st_neq, st_lss, st_leq, st_gtr, st_geq, st_seq, st_sneq, st_beq, st_bneq, st_not, st_neg, st_lenS, st_capS, st_lenT, st_fldA, st_conv, st_pick, st_ext0, st_ext1, st_ext2, st_ext3, st_nilS, st_nilP, st_nilF, st_nilE, st_nilN, st_none, st_some, st_true, st_false, nilC, add_lit, Nat.zero_add, Nat.add_zero, nth0, nth1, nth2, nth3, nth4, nth5, nth6, List.getElem?_cons_succ, List.getElem?_cons_zero, cond_true, cond_false, pSC_orp, pSC_andp, wrap_i64, Bool.not_true, Bool.not_false, ho2.len, hyl]
      refine pIf_of (fun hlt2 => ?_) (fun hlt2 => ?_)
      · have hlt2 : j < xs.length := by simpa using hlt2
        have hxj := List.getElem?_eq_getElem hlt2
        have hyj : ys[j]? = some xs[j] := by
          have : (ys.drop j)[0]? = (xs.drop j)[0]? := by rw [hd]
          simpa [List.getElem?_drop, hxj] using this
        refine pJoin_id ?_
        obtain ⟨ad2, i2, c2⟩ := (ho2.reads hs2).at1 (ints_at hyj) (x := j) rfl
        try simp (disch := omega) only [pV_some, pE_some, pU_some, st_add, st_sub, st_mul, st_quo, st_rem, st_eql, st_neq, st_lss, st_leq, st_gtr, st_geq, st_seq, st_sneq, st_beq, st_bneq, st_not, st_neg, st_lenS, st_capS, st_lenT, st_fldA, st_conv, st_pick, st_ext0, st_ext1, st_ext2, st_ext3, st_nilS, st_nilP, st_nilF, st_nilE, st_nilN, st_none, st_some, st_true, st_false, nilC, add_lit, Nat.zero_add, Nat.add_zero, nth0, nth1, nth2, nth3, nth4, nth5, nth6, List.getElem?_cons_succ, List.getElem?_cons_zero, cond_true, cond_false, pSC_orp, pSC_andp, wrap_i64, Bool.not_true, Bool.not_false, i2, ld1r c2]
        refine cmp_spec hs2 (List.mem_append_right _ hb) xs[j] ?_
        have htj : (xs.take (j + 1)).filter (fun x => decide (x ≠ id)) = (xs.take j).filter (fun x => decide (x ≠ id)) ++ (if xs[j] = id then [] else [xs[j]]) := by
          rw [List.take_add_one, hxj, List.filter_append]
          congr 1
          by_cases h : xs[j] = id <;> simp [h]
        try simp (disch := omega) only [pV_some, pE_some, pU_some, st_add, st_sub, st_mul, st_quo, st_rem, st_eql, st_neq, st_lss, st_leq, st_gtr, st_geq, st_seq, st_sneq, st_beq, st_bneq, st_not, st_neg, st_lenS, st_capS, st_lenT, st_fldA, st_conv, st_pick, st_ext0, st_ext1, st_ext2, st_ext3, st_nilS, st_nilP, st_nilF, st_nilE, st_nilN, st_none, st_some, st_true, st_false, nilC, add_lit, Nat.zero_add, Nat.add_zero, nth0, nth1, nth2, nth3, nth4, nth5, nth6, List.getElem?_cons_succ, List.getElem?_cons_zero, cond_true, cond_false, pSC_orp, pSC_andp, wrap_i64, Bool.not_true, Bool.not_false]
        refine pIf_of (fun he2 => ?_) (fun he2 => ?_)
        · have he2 : ¬ xs[j] = id := by simpa using he2
          obtain ⟨ad3, i3, _, hput⟩ := own_set ho2 hs2 (i := a) (by omega) (x := a) rfl
          try simp (disch := omega) only [pV_some, pE_some, pU_some, st_add, st_sub, st_mul, st_quo, st_rem, st_eql, st_neq, st_lss, st_leq, st_gtr, st_geq, st_seq, st_sneq, st_beq, st_bneq, st_not, st_neg, st_lenS, st_capS, st_lenT, st_fldA, st_conv, st_pick, st_ext0, st_ext1, st_ext2, st_ext3, st_nilS, st_nilP, st_nilF, st_nilE, st_nilN, st_none, st_some, st_true, st_false, nilC, add_lit, Nat.zero_add, Nat.add_zero, nth0, nth1, nth2, nth3, nth4, nth5, nth6, List.getElem?_cons_succ, List.getElem?_cons_zero, cond_true, cond_false, pSC_orp, pSC_andp, wrap_i64, Bool.not_true, Bool.not_false, i3]
          refine hput xs[j] w2 _ hs2 (fun h3 w3 ho3 hs3 => ?_)
          try simp (disch := omega) only [pV_some, pE_some, pU_some, st_add, st_sub, st_mul, st_quo, st_rem, st_eql, st_neq, st_lss, st_leq, st_gtr, st_geq, st_seq, st_sneq, st_beq, st_bneq, st_not, st_neg, st_lenS, st_capS, st_lenT, st_fldA, st_conv, st_pick, st_ext0, st_ext1, st_ext2, st_ext3, st_nilS, st_nilP, st_nilF, st_nilE, st_nilN, st_none, st_some, st_true, st_false, nilC, add_lit, Nat.zero_add, Nat.add_zero, nth0, nth1, nth2, nth3, nth4, nth5, nth6, List.getElem?_cons_succ, List.getElem?_cons_zero, cond_true, cond_false, pSC_orp, pSC_andp, wrap_i64, Bool.not_true, Bool.not_false]
          refine hgo2 _ _ hlt2 ⟨a + 1, ys.set a xs[j], h3, by simp, ho3, hs3, by simpa using hyl, by omega, ?_, ?_⟩
          · rw [htj, if_neg he2, ← ht, List.take_add_one, List.getElem?_set_self (by omega), List.take_set_of_le (Nat.le_refl _)]
            rfl
          · rw [List.drop_set_of_lt (by omega)]
            rw [← List.drop_drop, ← List.drop_drop, hd]
        · have he2 : xs[j] = id := by simpa using he2
          try simp (disch := omega) only [pV_some, pE_some, pU_some, st_add, st_sub, st_mul, st_quo, st_rem, st_eql, st_neq, st_lss, st_leq, st_gtr, st_geq, st_seq, st_sneq, st_beq, st_bneq, st_not, st_neg, st_lenS, st_capS, st_lenT, st_fldA, st_conv, st_pick, st_ext0, st_ext1, st_ext2, st_ext3, st_nilS, st_nilP, st_nilF, st_nilE, st_nilN, st_none, st_some, st_true, st_false, nilC, add_lit, Nat.zero_add, Nat.add_zero, nth0, nth1, nth2, nth3, nth4, nth5, nth6, List.getElem?_cons_succ, List.getElem?_cons_zero, cond_true, cond_false, pSC_orp, pSC_andp, wrap_i64, Bool.not_true, Bool.not_false]
          refine hgo2 _ _ hlt2 ⟨a, ys, h2, by simp, ho2, hs2, hyl, by omega, ?_, ?_⟩
          · rw [htj, if_pos he2, List.append_nil]; exact ht
          · rw [← List.drop_drop, ← List.drop_drop, hd]
      · obtain rfl : j = xs.length := by simp at hlt2; omega
        rw [List.take_length] at ht
        refine clear_own ho2 hs2 (i := a) (by omega) (fun h4 w4 ho4 hs4 => ?_)
        have hal : (ys.take a).length = a := by simp; omega
        have ho4' : OwnS 3 1 v (ys.take a ++ List.replicate (ys.length - a) 0).length (ints (ys.take a) ++ ints (List.replicate (ys.length - a) 0)) h4 := by rw [← ints_append]; exact ho4
        obtain ⟨v', h1, h2⟩ := OwnS.cut ho4' (m := a) (by simp; omega) (by rw [ints_len]; omega) (x := a) rfl
        try simp (disch := omega) only [pV_some, pE_some, pU_some, st_add, st_sub, st_mul, st_quo, st_rem, st_eql, st_neq, st_lss, st_leq, st_gtr, st_geq, st_seq, st_sneq, st_beq, st_bneq, st_not, st_neg, st_lenS, st_capS, st_lenT, st_fldA, st_conv, st_pick, st_ext0, st_ext1, st_ext2, st_ext3, st_nilS, st_nilP, st_nilF, st_nilE, st_nilN, st_none, st_some, st_true, st_false, nilC, add_lit, Nat.zero_add, Nat.add_zero, nth0, nth1, nth2, nth3, nth4, nth5, nth6, List.getElem?_cons_succ, List.getElem?_cons_zero, cond_true, cond_false, pSC_orp, pSC_andp, wrap_i64, Bool.not_true, Bool.not_false, h1]
        have e : ys.take a = drop1 xs id := ht
        rw [e] at h2 hal
        refine k v' h4 w4 ?_ hs4
        show OwnS _ 1 v' (drop1 xs id).length _ h4
        rw [hal]; exact h2
    · have he : ¬ xs[i] = id := by simpa using he
      try simp (disch := omega) only [pV_some, pE_some, pU_some, st_add, st_sub, st_mul, st_quo, st_rem, st_eql, st_neq, st_lss, st_leq, st_gtr, st_geq, st_seq, st_sneq, st_beq, st_bneq, st_not, st_neg, st_lenS, st_capS, st_lenT, st_fldA, st_conv, st_pick, st_ext0, st_ext1, st_ext2, st_ext3, st_nilS, st_nilP, st_nilF, st_nilE, st_nilN, st_none, st_some, st_true, st_false, nilC, add_lit, Nat.zero_add, Nat.add_zero, nth0, nth1, nth2, nth3, nth4, nth5, nth6, List.getElem?_cons_succ, List.getElem?_cons_zero, cond_true, cond_false, pSC_orp, pSC_andp, wrap_i64, Bool.not_true, Bool.not_false]
      refine hgo _ _ hlt ⟨by simp, rfl, fun x hx' => ?_⟩
      rw [List.take_add_one, hx] at hx'
      rcases List.mem_append.1 hx' with h | h
      · exact hne x h
      · simp at h; subst h; exact he
  · obtain rfl : i = xs.length := by simp at hlt; omega
    rw [List.take_length] at hne
    try simp (disch := omega) only [pV_some, pE_some, pU_some, st_add, st_sub, st_mul, st_quo, st_rem, st_eql, st_neq, st_lss, st_leq, st_gtr, st_geq, st_seq, st_sneq, st_beq, st_bneq, st_not, st_neg, st_lenS, st_capS, st_lenT, st_fldA, st_conv, st_pick, st_ext0, st_ext1, st_ext2, st_ext3, st_nilS, st_nilP, st_nilF, st_nilE, st_nilN, st_none, st_some, st_true, st_false, nilC, add_lit, Nat.zero_add, Nat.add_zero, nth0, nth1, nth2, nth3, nth4, nth5, nth6, List.getElem?_cons_succ, List.getElem?_cons_zero, cond_true, cond_false, pSC_orp, pSC_andp, wrap_i64, Bool.not_true, Bool.not_false]
    refine pIf_of (fun _ => ?_) (fun h => by simp at h)
    have : drop1 xs id = xs := by unfold drop1; rw [List.filter_eq_self]; intro x hx; simpa using hne x hx
    refine k v hp w1 (by rw [this]; exact ho) hs
end Go.Proofs.Ytbbjljhbiaeadaa
