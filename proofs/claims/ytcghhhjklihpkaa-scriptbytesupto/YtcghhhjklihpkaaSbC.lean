/- script: codec.big. -/
import Derived.Test.YtcghhhjklihpkaaSbB
import Derived.Test.YtcghhhjklihpkaaMem6
set_option linter.unusedSimpArgs false
set_option linter.unusedVariables false
namespace Go.Proofs.Ytcghhhjklihpkaa
open Go.Bk Go.RowKit

/-- Writing one of one's own bytes. -/
theorem own_setB {w0 w : World} {M : Nat → Prop} {r kk : HP} {s : Value} {d : List Nat} (ho : OwnB s d kk) (hs : St w0 M (kk ++ r) w) {i : Nat} (hi : i < d.length) {x : Int} (hx : x = i) :
    ∃ ad, idxV 1 s (.int .i64 x) = some (.pointer (some ad)) ∧ w.cell? ad = some (.int .u8 d[i]) ∧ ∀ (y : Nat) (w1 : World) (K : World → Prop), St w0 M (kk ++ r) w1 → (∀ kk' w', OwnB s (d.set i y) kk' → St w0 M (kk' ++ r) w' → K w') → pU (stE 1 (.pointer (some ad)) (.int .u8 y) w1) K := by
  rcases ho.2 with ⟨_, h0, _⟩ | ⟨g, cap, sp, rfl, hn, hc, hcs, rfl⟩
  · omega
  · refine ⟨⟨g, 0 + i * 1, none⟩, idx_lit hi hx, ?_, fun y w1 K hs1 k => ?_⟩
    · rw [(hs.has _ (List.mem_cons_self ..)).cell]
      simp only [Nat.zero_add, Nat.mul_one]
      rw [List.getElem?_append_left (by rw [bys_len]; exact hi)]
      exact bys_at (List.getElem?_eq_getElem hi)
    · rw [Nat.zero_add, Nat.mul_one]
      refine pU_set hs1 rfl (bys (d.set i y) ++ sp) (by rw [List.length_append, bys_len]; omega) ?_ (fun w' hs' _ => k [(g, ⟨bys (d.set i y) ++ sp, 5⟩)] w' ?_ hs')
      · rw [List.set_append_left _ _ (by rw [bys_len]; exact hi)]
        simp [bys, List.map_set, B]
      · refine ⟨by simp [bys], .inr ⟨g, cap, sp, by simp, by simpa using hn, hc, ?_, rfl⟩⟩
        refine Nat.le_trans hcs (Nat.le_of_eq ?_)
        simp [bys]

/-- codec.big. -/
theorem big_spec {w : World} (x n : Nat) (hn : n ≤ 8) {K : Value → World → Prop}
    (k : ∀ v' hp w', OwnB v' (numTop x n n) hp → St w no hp w' → K v' w') : F51 (.int .u64 x) (.int .i64 n) w K := by
  unfold F51
  refine make_own ty_bytes (St.nil w no) .i64 .i64 n (by omega) (by simp [maxLen]; omega) (fun v hp w1 ho hs => ?_)
  have hz : (madeCells (Value.int IntKind.u8 0).cells (n * 1)).toList = bys (List.replicate n 0) := by
    apply List.ext_getElem
    · simp [size_madeCells, bys]
    · intro i h1 h2
      simp [madeCells, bys, B, Value.cells, Nat.mod_one]
  rw [hz] at ho
  have ho : OwnB v (List.replicate n 0) hp := by
    have hn2 : (List.replicate n 0).length = n := by simp
    show OwnS _ 1 v (List.replicate n 0).length _ hp
    rw [hn2]; exact ho
  have hvl : lenS v = some (.int .i64 n) := by have := ho.len; simpa using this
  simp (disch := omega) only [pV_some, pE_some, pU_some, st_add, st_sub, st_mul, st_quo, st_rem, st_eql, st_neq, st_lss, st_leq, st_gtr, st_geq, st_seq, st_sneq, st_beq, st_bneq, st_not, st_neg, st_lenS, st_capS, st_lenT, st_fldA, st_conv, st_pick, st_ext0, st_ext1, st_ext2, st_ext3, st_nilS, st_nilP, st_nilF, st_nilE, st_nilN, st_none, st_some, st_true, st_false, nilC, add_lit, Nat.zero_add, Nat.add_zero, nth0, nth1, nth2, nth3, nth4, nth5, nth6, List.getElem?_cons_succ, List.getElem?_cons_zero, cond_true, cond_false, pSC_orp, pSC_andp, wrap_i64, Bool.not_true, Bool.not_false, hvl]
  refine pLoop_up (I := fun i vs w' => ∃ hp, vs = [.int .i64 (i : Nat)] ∧ OwnB v (numTop x n i ++ List.replicate (n - i) 0) hp ∧ St w no hp w') n 0 (Nat.zero_le _) ⟨hp, rfl, by simpa [numTop] using ho, by simpa using hs⟩ ?_
  rintro i vs w2 hi ⟨hp, rfl, ho, hs⟩ go hgo
  simp (disch := omega) only [pV_some, pE_some, pU_some, st_add, st_sub, st_mul, st_quo, st_rem, st_eql, st_neq, st_lss, st_leq, st_gtr, st_geq, st_seq, st_sneq, st_beq, st_bneq, st_not, st_neg, st_lenS, st_capS, st_lenT, st_fldA, st_conv, st_pick, st_ext0, st_ext1, st_ext2, st_ext3, st_nilS, st_nilP, st_nilF, st_nilE, st_nilN, st_none, st_some, st_true, st_false, nilC, add_lit, Nat.zero_add, Nat.add_zero, nth0, nth1, nth2, nth3, nth4, nth5, nth6, List.getElem?_cons_succ, List.getElem?_cons_zero, cond_true, cond_false, pSC_orp, pSC_andp, wrap_i64, Bool.not_true, Bool.not_false]
  refine pIf_of (fun hlt => ?_) (fun hlt => ?_)
  · have hlt : i < n := by have := of_decide_eq_true hlt; omega
    have e : (8 : Int) * ((n : Int) - 1 - i) = ((8 * (n - 1 - i) : Nat) : Int) := by omega
    rw [e]
    obtain ⟨ad, i1, _, hput⟩ := own_setB ho (r := []) (by simpa using hs) (i := i) (by simp [numTop_len]; omega) (x := i) rfl
    simp (disch := omega) only [pV_some, pE_some, pU_some, st_add, st_sub, st_mul, st_quo, st_rem, st_eql, st_neq, st_lss, st_leq, st_gtr, st_geq, st_seq, st_sneq, st_beq, st_bneq, st_not, st_neg, st_lenS, st_capS, st_lenT, st_fldA, st_conv, st_pick, st_ext0, st_ext1, st_ext2, st_ext3, st_nilS, st_nilP, st_nilF, st_nilE, st_nilN, st_none, st_some, st_true, st_false, nilC, add_lit, Nat.zero_add, Nat.add_zero, nth0, nth1, nth2, nth3, nth4, nth5, nth6, List.getElem?_cons_succ, List.getElem?_cons_zero, cond_true, cond_false, pSC_orp, pSC_andp, wrap_i64, Bool.not_true, Bool.not_false, st_shr (k := .u64) (k' := .i64) (a := x) (b := 8 * (n - 1 - i)) (by simp [IntKind.bits]; omega), wrap_u8, i1]
    have e2 : x / 2 ^ (8 * (n - 1 - i)) % 256 = x / 256 ^ (n - 1 - i) % 256 := by rw [Nat.pow_mul]
    rw [e2]
    refine hput _ w2 _ (by simpa using hs) (fun kk' w' ho' hs' => ?_)
    refine hgo _ _ hlt ⟨kk', by simp, ?_, by simpa using hs'⟩
    have e3 : (numTop x n i ++ List.replicate (n - i) 0).set i (x / 256 ^ (n - 1 - i) % 256) = numTop x n (i + 1) ++ List.replicate (n - (i + 1)) 0 := by
      rw [List.set_append_right _ _ (by rw [numTop_len]; omega), numTop_len, Nat.sub_self, numTop_succ, show n - i = (n - (i + 1)) + 1 by omega, List.replicate_succ]
      simp
    rw [e3] at ho'
    exact ho'
  · obtain rfl : i = n := by have := of_decide_eq_false hlt; omega
    rw [Nat.sub_self] at ho
    exact k v hp w2 (by simpa using ho) hs
end Go.Proofs.Ytcghhhjklihpkaa
