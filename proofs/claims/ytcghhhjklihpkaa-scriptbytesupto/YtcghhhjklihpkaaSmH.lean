/- script: 'spoilt' is true of a list of one's own. -/
import Derived.Test.YtcghhhjklihpkaaSmG
set_option linter.unusedSimpArgs false
set_option linter.unusedVariables false
namespace Go.Proofs.Ytcghhhjklihpkaa
open Go.Bk Go.RowKit

theorem ld3 {L : List (In × Value)} {i g : Nat} {p : In × Value} {sp : List Value} {w : World} (hh : Has w g ⟨rows L ++ sp, 42⟩) (hLp : L[i]? = some p) : ldV false 1 w (.pointer (some ⟨g, i * 4 + 3, none⟩)) = some p.2 := by
  rw [hh.ld]
  exact flat_get row 4 (fun _ => rfl) L i p sp hLp 3 (by omega)

def five (j : Nat) : Int := -5 - (j : Int)

/-- The first i have words of their number alone. -/
def Five (i : Nat) (L : List (In × Value)) : Prop := ∀ j p, j < i → L[j]? = some p → p.1.d = List.replicate p.1.d.length (five j)

/-- v began as s, whose words stay d. -/
def ExtSt (w : World) (M : Nat → Prop) (s : Value) (d : List Int) (v : Value) (d' : List Int) (r : HP) (w1 : World) : Prop :=
  ∃ kv, OwnI v d' kv ∧ ((∃ ks, OwnI s d ks ∧ St w M (kv ++ (ks ++ r)) w1) ∨ (OwnI s d kv ∧ St w M (kv ++ r) w1))
theorem ExtSt.len {w : World} {M : Nat → Prop} {s : Value} {d : List Int} {v : Value} {d' : List Int} {r : HP} {w1 : World} (h : ExtSt w M s d v d' r w1) : lenS v = some (.int .i64 d'.length) := by
  obtain ⟨kv, h1, _⟩ := h; exact h1.len
theorem ExtSt.back {w : World} {M : Nat → Prop} {s : Value} {d : List Int} {v : Value} {d' : List Int} {r : HP} {w1 : World} (h : ExtSt w M s d v d' r w1) : ∃ ks, OwnI s d ks ∧ St w M (ks ++ r) w1 := by
  obtain ⟨kv, _, ⟨ks, h1, h2⟩ | ⟨h1, h2⟩⟩ := h
  · exact ⟨ks, h1, h2.re (fun _ => by simp only [cnt_nil, cnt_cons, cnt_append]; omega)⟩
  · exact ⟨kv, h1, h2⟩
theorem ext_step {w w1 : World} {M : Nat → Prop} {s v : Value} {d t : List Int} {r : HP} (h : ExtSt w M s d v (d ++ t) r w1) {c : Int} {ty : TypeId} (hb : (d ++ t).length < 2147483647) {K : Value → World → Prop}
    (k : ∀ v' w', ExtSt w M s d v' (d ++ (t ++ [c])) r w' → K v' w') : pE (mkE 2 1 [.int .i64 c] w1) fun x w => pE (semE Try.prog (Builtin.append_ #[40, 40] ty #[v, x]) w) K := by
  obtain ⟨kv, ho, hd⟩ := h
  have fin : ∀ (f : HP), St w M (kv ++ f) w1 → (∀ v' kv' w', OwnI v' (d ++ (t ++ [c])) kv' → (St w M (kv' ++ (kv ++ f)) w' ∨ (St w M (kv' ++ f) w' ∧ ∃ g cap sp, v = .slice (some ⟨g, 0, none⟩) (d ++ t).length cap ∧ kv = [(g, ⟨ints (d ++ t) ++ sp, 2⟩)] ∧ 1 ≤ sp.length ∧ kv' = [(g, ⟨ints (d ++ t) ++ ints [c] ++ sp.drop 1, 2⟩)])) → K v' w') →
      pE (mkE 2 1 [.int .i64 c] w1) fun x w => pE (semE Try.prog (Builtin.append_ #[40, 40] ty #[v, x]) w) K := by
    intro f hs kk
    refine pE_mkc hs (ints [c]) rfl (by simp [Value.cells]) (fun b w2 hs2 ht2 _ => ?_)
    have hB := hs2.top
    refine append_keep (h := (b, ⟨ints [c], 2⟩) :: f) ty_ints ho (hs2.re (fun _ => by simp only [cnt_nil, cnt_cons, cnt_append]; omega)) (xa := some ⟨b, 0, none⟩) (m := 1) (news := ints [c]) rfl (by simp) (by omega) rfl (fun ad h => by cases h; exact hB.cellsAt 0) (ints_one _) (by simp [maxLen] at hb ⊢; omega) (by omega) (fun v' hp' w' ho' hs' => ?_)
    refine kk v' hp' w' ?_ ?_
    · rw [← List.append_assoc]
      have : OwnS 2 1 v' (d ++ t ++ [c]).length (ints (d ++ t ++ [c])) hp' := by rw [ints_append, List.length_append]; exact ho'
      exact this
    · rcases hs' with hs' | ⟨hs', g, cap, sp, h1, h2, h3, h4, h5⟩
      · exact .inl (hs'.re (fun _ => by simp only [cnt_nil, cnt_cons, cnt_append]; omega))
      · exact .inr ⟨hs'.re (fun _ => by simp only [cnt_nil, cnt_cons, cnt_append]; omega), g, cap, sp, h1, h3, h4, h5⟩
  rcases hd with ⟨ks, hks, hs⟩ | ⟨hks, hs⟩
  · refine fin (ks ++ r) hs (fun v' kv' w' ho' hs' => k v' w' ⟨kv', ho', .inl ⟨ks, hks, ?_⟩⟩)
    rcases hs' with hs' | ⟨hs', _⟩
    · exact hs'.re (fun _ => by simp only [cnt_nil, cnt_cons, cnt_append]; omega)
    · exact hs'
  · refine fin r hs (fun v' kv' w' ho' hs' => k v' w' ?_)
    rcases hs' with hs' | ⟨hs', g, cap, sp, h1, h2, h3, h4⟩
    · exact ⟨kv', ho', .inl ⟨kv, hks, hs'⟩⟩
    · refine ⟨kv', ho', .inr ⟨?_, hs'⟩⟩
      subst h2 h4
      rcases hks.2 with ⟨_, _, h0⟩ | ⟨g2, cap2, sp2, rfl, hn2, hc2, hcs2, he⟩
      · cases h0
      · simp only [List.cons.injEq, Prod.mk.injEq, Blk.mk.injEq, and_true] at he
        obtain ⟨rfl, he⟩ := he
        refine ⟨by simp [ints], .inr ⟨g, cap2, ints t ++ ints [c] ++ sp.drop 1, rfl, hn2, hc2, ?_, by rw [ints_append]; simp⟩⟩
        refine Nat.le_trans hcs2 (Nat.le_of_eq ?_)
        rw [← he]
        simp [ints]
        omega

theorem spoilt_spec {w : World} {v : Value} {ps : List (In × Value)} {h : HP} (ho : OwnIns v ps h) (hs : St w (fun i => i ∈ keys h) h w) (fp : Fits ps) {K : Value → World → Prop}
    (k : ∀ w', Tr w (fun i => i ∈ keys h) w' → K (.bool true) w') : F11 v w K := by
  unfold F11
  obtain ⟨o, inn, ho, hi, rfl⟩ := ho
  have fp1 := fp.1
  have hlen := ho.len
  generalize hM : (fun i => i ∈ keys (o ++ inn)) = M at hs k
  clear hM
  rcases ho.2 with ⟨rfl, h0, rfl⟩ | ⟨g, cap, sp, rfl, hn, hc, hcs, rfl⟩
  · have hnil : ps = [] := List.eq_nil_of_length_eq_zero h0
    subst hnil
    refine pLoop_up (I := fun i vs w1 => vs = [.int .i64 0] ∧ St w M inn w1) 0 0 (by omega) ⟨rfl, hs⟩ ?_
    rintro i vs w1 hi1 ⟨rfl, hs1⟩ go hgo
    simp (disch := omega) only [pV_some, pE_some, pU_some, st_add, st_sub, st_mul, st_quo, st_rem, st_eql, st_neq, st_lss, st_leq, st_gtr, st_geq, st_seq, st_sneq, st_beq, st_bneq, st_not, st_neg, st_lenS, st_capS, st_lenT, st_fldA, st_conv, st_pick, st_ext0, st_ext1, st_ext2, st_ext3, st_nilS, st_nilP, st_nilF, st_nilE, st_nilN, st_none, st_some, st_true, st_false, nilC, add_lit, Nat.zero_add, Nat.add_zero, nth0, nth1, nth2, nth3, nth4, nth5, nth6, List.getElem?_cons_succ, List.getElem?_cons_zero, cond_true, cond_false, pSC_orp, pSC_andp, wrap_i64, Bool.not_true, Bool.not_false]
    refine pIf_of (fun h => absurd h (by decide)) (fun _ => ?_)
    refine pLoop_up (I := fun i vs w1 => vs = [.int .i64 0, .int .i64 0] ∧ St w M inn w1) 0 0 (by omega) ⟨rfl, hs1⟩ ?_
    rintro i vs w2 hi2 ⟨rfl, hs2⟩ go hgo
    simp (disch := omega) only [pV_some, pE_some, pU_some, st_add, st_sub, st_mul, st_quo, st_rem, st_eql, st_neq, st_lss, st_leq, st_gtr, st_geq, st_seq, st_sneq, st_beq, st_bneq, st_not, st_neg, st_lenS, st_capS, st_lenT, st_fldA, st_conv, st_pick, st_ext0, st_ext1, st_ext2, st_ext3, st_nilS, st_nilP, st_nilF, st_nilE, st_nilN, st_none, st_some, st_true, st_false, nilC, add_lit, Nat.zero_add, Nat.add_zero, nth0, nth1, nth2, nth3, nth4, nth5, nth6, List.getElem?_cons_succ, List.getElem?_cons_zero, cond_true, cond_false, pSC_orp, pSC_andp, wrap_i64, Bool.not_true, Bool.not_false]
    refine pIf_of (fun h => absurd h (by decide)) (fun _ => ?_)
    refine pLoop_up (I := fun i vs w1 => vs = [.bool true, .int .i64 0] ∧ St w M inn w1) 0 0 (by omega) ⟨by simp, hs2⟩ ?_
    rintro i vs w3 hi3 ⟨rfl, hs3⟩ go hgo
    simp (disch := omega) only [pV_some, pE_some, pU_some, st_add, st_sub, st_mul, st_quo, st_rem, st_eql, st_neq, st_lss, st_leq, st_gtr, st_geq, st_seq, st_sneq, st_beq, st_bneq, st_not, st_neg, st_lenS, st_capS, st_lenT, st_fldA, st_conv, st_pick, st_ext0, st_ext1, st_ext2, st_ext3, st_nilS, st_nilP, st_nilF, st_nilE, st_nilN, st_none, st_some, st_true, st_false, nilC, add_lit, Nat.zero_add, Nat.add_zero, nth0, nth1, nth2, nth3, nth4, nth5, nth6, List.getElem?_cons_succ, List.getElem?_cons_zero, cond_true, cond_false, pSC_orp, pSC_andp, wrap_i64, Bool.not_true, Bool.not_false]
    refine pIf_of (fun h => absurd h (by decide)) (fun _ => ?_)
    refine pLoop_up (I := fun i vs w1 => vs = [.int .i64 0] ∧ St w M inn w1) 0 0 (by omega) ⟨rfl, hs3⟩ ?_
    rintro i vs w4 hi4 ⟨rfl, hs4⟩ go hgo
    simp (disch := omega) only [pV_some, pE_some, pU_some, st_add, st_sub, st_mul, st_quo, st_rem, st_eql, st_neq, st_lss, st_leq, st_gtr, st_geq, st_seq, st_sneq, st_beq, st_bneq, st_not, st_neg, st_lenS, st_capS, st_lenT, st_fldA, st_conv, st_pick, st_ext0, st_ext1, st_ext2, st_ext3, st_nilS, st_nilP, st_nilF, st_nilE, st_nilN, st_none, st_some, st_true, st_false, nilC, add_lit, Nat.zero_add, Nat.add_zero, nth0, nth1, nth2, nth3, nth4, nth5, nth6, List.getElem?_cons_succ, List.getElem?_cons_zero, cond_true, cond_false, pSC_orp, pSC_andp, wrap_i64, Bool.not_true, Bool.not_false]
    refine pIf_of (fun h => absurd h (by decide)) (fun _ => ?_)
    refine pLoop_up (I := fun i vs w1 => ∃ vo L o, vs = [vo, .int .i64 (i : Nat)] ∧ L.length = i ∧ OwnS 42 4 vo L.length (rows L) o ∧ St w M (o ++ inn) w1) 64 0 (by omega) ⟨_, [], [], rfl, rfl, ownS_nil _ _, hs4⟩ ?_
    rintro i vs w5 hi5 ⟨vo, L, o, rfl, hLl, ho5, hs5⟩ go hgo
    simp (disch := omega) only [pV_some, pE_some, pU_some, st_add, st_sub, st_mul, st_quo, st_rem, st_eql, st_neq, st_lss, st_leq, st_gtr, st_geq, st_seq, st_sneq, st_beq, st_bneq, st_not, st_neg, st_lenS, st_capS, st_lenT, st_fldA, st_conv, st_pick, st_ext0, st_ext1, st_ext2, st_ext3, st_nilS, st_nilP, st_nilF, st_nilE, st_nilN, st_none, st_some, st_true, st_false, nilC, add_lit, Nat.zero_add, Nat.add_zero, nth0, nth1, nth2, nth3, nth4, nth5, nth6, List.getElem?_cons_succ, List.getElem?_cons_zero, cond_true, cond_false, pSC_orp, pSC_andp, wrap_i64, Bool.not_true, Bool.not_false]
    refine pIf_of (fun hlt => ?_) (fun hlt => ?_)
    · have hlt : i < 64 := by simp at hlt; omega
      refine pV_eq (show _ = some (inV (⟨-8, 0, 0, []⟩, .slice none 0 0)) from rfl) ?_
      refine more_spec (p := (⟨-8, 0, 0, []⟩, .slice none 0 0)) ho5 hs5 rfl (by omega) (fun v6 o6 w6 ho6 hs6 => ?_)
      exact hgo _ _ hlt ⟨v6, _, o6, by simp, by simp [hLl], ho6, hs6⟩
    · obtain rfl : i = 64 := by simp at hlt; omega
      simp (disch := omega) only [pV_some, pE_some, pU_some, st_add, st_sub, st_mul, st_quo, st_rem, st_eql, st_neq, st_lss, st_leq, st_gtr, st_geq, st_seq, st_sneq, st_beq, st_bneq, st_not, st_neg, st_lenS, st_capS, st_lenT, st_fldA, st_conv, st_pick, st_ext0, st_ext1, st_ext2, st_ext3, st_nilS, st_nilP, st_nilF, st_nilE, st_nilN, st_none, st_some, st_true, st_false, nilC, add_lit, Nat.zero_add, Nat.add_zero, nth0, nth1, nth2, nth3, nth4, nth5, nth6, List.getElem?_cons_succ, List.getElem?_cons_zero, cond_true, cond_false, pSC_orp, pSC_andp, wrap_i64, Bool.not_true, Bool.not_false, ho5.len, hLl]
      exact k w5 hs5.tr
  · have hbnd : Bnd ps.length 1073741824 ps := ⟨rfl, fp.2⟩
    have hx : ∀ i, i < ps.length → idxV 4 (.slice (some ⟨g, 0, none⟩) ps.length cap) (.int .i64 (i : Nat)) = some (.pointer (some ⟨g, i * 4, none⟩)) := fun i hi => by
      have := idx_lit (sz := 4) (n := ps.length) (c := cap) (g := g) (o := 0) (i := i) hi (x := i) rfl
      simpa using this
    -- the words written full
    refine pLoop_up (I := fun i vs w1 => ∃ L inn, vs = [.int .i64 (i : Nat)] ∧ Bnd ps.length 1073741824 L ∧ Inn L inn ∧ Five i L ∧ St w M ((g, ⟨rows L ++ sp, 42⟩) :: inn) w1) ps.length 0 (by omega) ⟨ps, inn, rfl, hbnd, hi, fun j p h => by omega, hs⟩ ?_
    rintro i vs w1 hi1 ⟨L, inn, rfl, hbL, hiL, h5L, hs1⟩ go1 hgo1
    simp (disch := omega) only [pV_some, pE_some, pU_some, st_add, st_sub, st_mul, st_quo, st_rem, st_eql, st_neq, st_lss, st_leq, st_gtr, st_geq, st_seq, st_sneq, st_beq, st_bneq, st_not, st_neg, st_lenS, st_capS, st_lenT, st_fldA, st_conv, st_pick, st_ext0, st_ext1, st_ext2, st_ext3, st_nilS, st_nilP, st_nilF, st_nilE, st_nilN, st_none, st_some, st_true, st_false, nilC, add_lit, Nat.zero_add, Nat.add_zero, nth0, nth1, nth2, nth3, nth4, nth5, nth6, List.getElem?_cons_succ, List.getElem?_cons_zero, cond_true, cond_false, pSC_orp, pSC_andp, wrap_i64, Bool.not_true, Bool.not_false]
    refine pIf_of (fun hlt => ?_) (fun hlt => ?_)
    · have hlt : i < ps.length := by simpa using hlt
      have hi2 : i < L.length := by rw [hbL.1]; exact hlt
      have hbp := hbL.2 _ (List.getElem_mem hi2)
      refine pLoop_up (I := fun k vs w1 => ∃ L' inn p, vs = [.int .i64 (k : Nat)] ∧ L'[i]? = some p ∧ p.1.d.length = L[i].1.d.length ∧ p.1.d.take k = List.replicate k (five i) ∧ Bnd ps.length 1073741824 L' ∧ Inn L' inn ∧ Five i L' ∧ St w M ((g, ⟨rows L' ++ sp, 42⟩) :: inn) w1) L[i].1.d.length 0 (by omega) ⟨L, inn, L[i], rfl, List.getElem?_eq_getElem hi2, rfl, rfl, hbL, hiL, h5L, hs1⟩ ?_
      rintro k vs w2 hk ⟨L', inn, p, rfl, hLp, hpl, hpk, hbL', hiL', h5L', hs2⟩ go2 hgo2
      obtain ⟨kk, gg, hkk, hcnt, hput⟩ := OwnAll.focus hiL' hLp
      simp (disch := omega) only [pV_some, pE_some, pU_some, st_add, st_sub, st_mul, st_quo, st_rem, st_eql, st_neq, st_lss, st_leq, st_gtr, st_geq, st_seq, st_sneq, st_beq, st_bneq, st_not, st_neg, st_lenS, st_capS, st_lenT, st_fldA, st_conv, st_pick, st_ext0, st_ext1, st_ext2, st_ext3, st_nilS, st_nilP, st_nilF, st_nilE, st_nilN, st_none, st_some, st_true, st_false, nilC, add_lit, Nat.zero_add, Nat.add_zero, nth0, nth1, nth2, nth3, nth4, nth5, nth6, List.getElem?_cons_succ, List.getElem?_cons_zero, cond_true, cond_false, pSC_orp, pSC_andp, wrap_i64, Bool.not_true, Bool.not_false, hx i hlt, ld3 hs2.top hLp, hkk.len, hpl]
      refine pIf_of (fun hk2 => ?_) (fun hk2 => ?_)
      · have hk2 : k < L[i].1.d.length := by simpa using hk2
        have hs2' : St w M (kk ++ (gg ++ [(g, ⟨rows L' ++ sp, 42⟩)])) w2 := hs2.re (fun a => by simp only [cnt_cons, cnt_append, cnt_nil, hcnt]; omega)
        obtain ⟨ad, i1, c1, hput1⟩ := own_set hkk hs2' (i := k) (by omega) (x := k) rfl
        simp (disch := omega) only [pV_some, pE_some, pU_some, st_add, st_sub, st_mul, st_quo, st_rem, st_eql, st_neq, st_lss, st_leq, st_gtr, st_geq, st_seq, st_sneq, st_beq, st_bneq, st_not, st_neg, st_lenS, st_capS, st_lenT, st_fldA, st_conv, st_pick, st_ext0, st_ext1, st_ext2, st_ext3, st_nilS, st_nilP, st_nilF, st_nilE, st_nilN, st_none, st_some, st_true, st_false, nilC, add_lit, Nat.zero_add, Nat.add_zero, nth0, nth1, nth2, nth3, nth4, nth5, nth6, List.getElem?_cons_succ, List.getElem?_cons_zero, cond_true, cond_false, pSC_orp, pSC_andp, wrap_i64, Bool.not_true, Bool.not_false, i1]
        refine hput1 _ w2 _ hs2' (fun kk' w5 hkk' hs5 => ?_)
        have hp' : OwnI p.2 (p.1.d.set k (-5 - (i : Int))) kk' := hkk'
        have hsame : rows (L'.set i ((⟨p.1.t, p.1.k, p.1.g, p.1.d.set k (-5 - (i : Int))⟩, p.2) : In × Value)) = rows L' := rows_same hLp rfl
        refine hgo2 _ _ hk2 ⟨L'.set i ((⟨p.1.t, p.1.k, p.1.g, p.1.d.set k (-5 - (i : Int))⟩, p.2) : In × Value), kk' ++ gg, ((⟨p.1.t, p.1.k, p.1.g, p.1.d.set k (-5 - (i : Int))⟩, p.2) : In × Value), by simp, ?_, by simpa using hpl, ?_, hbL'.set (by simp; omega), hput _ _ hp', ?_, ?_⟩
        · rw [List.getElem?_set_self (by rw [hbL'.1]; exact hlt)]
        · show (p.1.d.set k _).take (k + 1) = _
          rw [List.take_add_one, List.getElem?_set_self (by omega), List.take_set_of_le (Nat.le_refl _), hpk, rep_snoc]
          rfl
        · intro j q hj hq
          rw [List.getElem?_set_ne (by omega)] at hq
          exact h5L' j q hj hq
        · rw [hsame]
          exact hs5.re (fun _ => by simp only [cnt_nil, cnt_cons, cnt_append]; omega)
      · obtain rfl : k = L[i].1.d.length := by simp at hk2; omega
        refine hgo1 _ _ hlt ⟨L', inn, by simp, hbL', hiL', ?_, hs2⟩
        intro j q hj hq
        by_cases hji : j = i
        · subst hji
          rw [hLp] at hq
          cases hq
          rw [← hpl, List.take_length] at hpk
          exact hpk
        · exact h5L' j q (by omega) hq
    · obtain rfl : i = ps.length := by simp at hlt; omega
      -- gone on with
      refine pLoop_up (I := fun i vs w1 => ∃ inn, vs = [.int .i64 ((64 * i : Nat) : Int), .int .i64 (i : Nat)] ∧ Inn L inn ∧ St w M ((g, ⟨rows L ++ sp, 42⟩) :: inn) w1) ps.length 0 (by omega) ⟨inn, rfl, hiL, hs1⟩ ?_
      clear hiL hs1 inn
      rintro i vs w3 hi3 ⟨inn, rfl, hiL, hs3⟩ go3 hgo3
      simp (disch := omega) only [pV_some, pE_some, pU_some, st_add, st_sub, st_mul, st_quo, st_rem, st_eql, st_neq, st_lss, st_leq, st_gtr, st_geq, st_seq, st_sneq, st_beq, st_bneq, st_not, st_neg, st_lenS, st_capS, st_lenT, st_fldA, st_conv, st_pick, st_ext0, st_ext1, st_ext2, st_ext3, st_nilS, st_nilP, st_nilF, st_nilE, st_nilN, st_none, st_some, st_true, st_false, nilC, add_lit, Nat.zero_add, Nat.add_zero, nth0, nth1, nth2, nth3, nth4, nth5, nth6, List.getElem?_cons_succ, List.getElem?_cons_zero, cond_true, cond_false, pSC_orp, pSC_andp, wrap_i64, Bool.not_true, Bool.not_false]
      refine pIf_of (fun hlt3 => ?_) (fun hlt3 => ?_)
      · have hlt3 : i < ps.length := by simpa using hlt3
        have hi2 : i < L.length := by rw [hbL.1]; exact hlt3
        have hLp := List.getElem?_eq_getElem hi2
        have hbp := hbL.2 _ (List.getElem_mem hi2)
        obtain ⟨kk, gg, hkk, hcnt, hput⟩ := OwnAll.focus hiL hLp
        simp (disch := omega) only [pV_some, pE_some, pU_some, st_add, st_sub, st_mul, st_quo, st_rem, st_eql, st_neq, st_lss, st_leq, st_gtr, st_geq, st_seq, st_sneq, st_beq, st_bneq, st_not, st_neg, st_lenS, st_capS, st_lenT, st_fldA, st_conv, st_pick, st_ext0, st_ext1, st_ext2, st_ext3, st_nilS, st_nilP, st_nilF, st_nilE, st_nilN, st_none, st_some, st_true, st_false, nilC, add_lit, Nat.zero_add, Nat.add_zero, nth0, nth1, nth2, nth3, nth4, nth5, nth6, List.getElem?_cons_succ, List.getElem?_cons_zero, cond_true, cond_false, pSC_orp, pSC_andp, wrap_i64, Bool.not_true, Bool.not_false, hx i hlt3, ld3 hs3.top hLp]
        refine pLoop_up (I := fun j vs w1 => ∃ v, vs = [v, .int .i64 (j : Nat)] ∧ ExtSt w M L[i].2 L[i].1.d v (L[i].1.d ++ List.replicate j 9) (gg ++ [(g, ⟨rows L ++ sp, 42⟩)]) w1) 64 0 (by omega) ⟨L[i].2, rfl, kk, by simpa using hkk, .inr ⟨hkk, hs3.re (fun a => by simp only [cnt_cons, cnt_append, cnt_nil, hcnt]; omega)⟩⟩ ?_
        rintro j vs w4 hj ⟨v, rfl, hE⟩ go4 hgo4
        simp (disch := omega) only [pV_some, pE_some, pU_some, st_add, st_sub, st_mul, st_quo, st_rem, st_eql, st_neq, st_lss, st_leq, st_gtr, st_geq, st_seq, st_sneq, st_beq, st_bneq, st_not, st_neg, st_lenS, st_capS, st_lenT, st_fldA, st_conv, st_pick, st_ext0, st_ext1, st_ext2, st_ext3, st_nilS, st_nilP, st_nilF, st_nilE, st_nilN, st_none, st_some, st_true, st_false, nilC, add_lit, Nat.zero_add, Nat.add_zero, nth0, nth1, nth2, nth3, nth4, nth5, nth6, List.getElem?_cons_succ, List.getElem?_cons_zero, cond_true, cond_false, pSC_orp, pSC_andp, wrap_i64, Bool.not_true, Bool.not_false]
        refine pIf_of (fun hj2 => ?_) (fun hj2 => ?_)
        · have hj2 : j < 64 := by simp at hj2; omega
          refine ext_step hE (by simp; omega) (fun v' w' hE' => ?_)
          exact hgo4 _ _ hj2 ⟨v', by simp, by rw [rep_snoc]; exact hE'⟩
        · obtain rfl : j = 64 := by simp at hj2; omega
          obtain ⟨ks, hks, hs4⟩ := hE.back
          have hs4' : St w M ((g, ⟨rows L ++ sp, 42⟩) :: (ks ++ gg)) w4 := hs4.re (fun _ => by simp only [cnt_nil, cnt_cons, cnt_append]; omega)
          have hLs : L.set i L[i] = L := by rw [List.set_getElem_self]
          simp (disch := omega) only [pV_some, pE_some, pU_some, st_add, st_sub, st_mul, st_quo, st_rem, st_eql, st_neq, st_lss, st_leq, st_gtr, st_geq, st_seq, st_sneq, st_beq, st_bneq, st_not, st_neg, st_lenS, st_capS, st_lenT, st_fldA, st_conv, st_pick, st_ext0, st_ext1, st_ext2, st_ext3, st_nilS, st_nilP, st_nilF, st_nilE, st_nilN, st_none, st_some, st_true, st_false, nilC, add_lit, Nat.zero_add, Nat.add_zero, nth0, nth1, nth2, nth3, nth4, nth5, nth6, List.getElem?_cons_succ, List.getElem?_cons_zero, cond_true, cond_false, pSC_orp, pSC_andp, wrap_i64, Bool.not_true, Bool.not_false, hE.len, ld3 hs4'.top hLp, hks.len, List.length_append, List.length_replicate]
          refine hgo3 _ _ hlt3 ⟨ks ++ gg, ?_, by rw [← hLs]; exact hput _ _ hks, hs4'⟩
          simp
          omega
      · obtain rfl : i = ps.length := by simp at hlt3; omega
        have hok : decide (((64 * ps.length : Nat) : Int) = 64 * (ps.length : Int)) = true := by simp
        simp (disch := omega) only [pV_some, pE_some, pU_some, st_add, st_sub, st_mul, st_quo, st_rem, st_eql, st_neq, st_lss, st_leq, st_gtr, st_geq, st_seq, st_sneq, st_beq, st_bneq, st_not, st_neg, st_lenS, st_capS, st_lenT, st_fldA, st_conv, st_pick, st_ext0, st_ext1, st_ext2, st_ext3, st_nilS, st_nilP, st_nilF, st_nilE, st_nilN, st_none, st_some, st_true, st_false, nilC, add_lit, Nat.zero_add, Nat.add_zero, nth0, nth1, nth2, nth3, nth4, nth5, nth6, List.getElem?_cons_succ, List.getElem?_cons_zero, cond_true, cond_false, pSC_orp, pSC_andp, wrap_i64, Bool.not_true, Bool.not_false, hok]
        -- looked at
        refine pLoop_up (I := fun i vs w1 => vs = [.bool true, .int .i64 (i : Nat)] ∧ w1 = w3) ps.length 0 (by omega) ⟨rfl, rfl⟩ ?_
        rintro i vs w5 hi5 ⟨rfl, rfl⟩ go5 hgo5
        simp (disch := omega) only [pV_some, pE_some, pU_some, st_add, st_sub, st_mul, st_quo, st_rem, st_eql, st_neq, st_lss, st_leq, st_gtr, st_geq, st_seq, st_sneq, st_beq, st_bneq, st_not, st_neg, st_lenS, st_capS, st_lenT, st_fldA, st_conv, st_pick, st_ext0, st_ext1, st_ext2, st_ext3, st_nilS, st_nilP, st_nilF, st_nilE, st_nilN, st_none, st_some, st_true, st_false, nilC, add_lit, Nat.zero_add, Nat.add_zero, nth0, nth1, nth2, nth3, nth4, nth5, nth6, List.getElem?_cons_succ, List.getElem?_cons_zero, cond_true, cond_false, pSC_orp, pSC_andp, wrap_i64, Bool.not_true, Bool.not_false]
        refine pIf_of (fun hlt5 => ?_) (fun hlt5 => ?_)
        · have hlt5 : i < ps.length := by simpa using hlt5
          have hi2 : i < L.length := by rw [hbL.1]; exact hlt5
          have hLp := List.getElem?_eq_getElem hi2
          have hbp := hbL.2 _ (List.getElem_mem hi2)
          obtain ⟨kk, gg, hkk, hcnt, hput⟩ := OwnAll.focus hiL hLp
          have hs5' : St w M (kk ++ (gg ++ [(g, ⟨rows L ++ sp, 42⟩)])) w5 := hs3.re (fun a => by simp only [cnt_cons, cnt_append, cnt_nil, hcnt]; omega)
          have h5 := h5L i _ hlt5 hLp
          refine pLoop_up (I := fun k vs w1 => vs = [.bool true, .int .i64 (k : Nat)] ∧ w1 = w5) L[i].1.d.length 0 (by omega) ⟨rfl, rfl⟩ ?_
          rintro k vs w6 hk ⟨rfl, rfl⟩ go6 hgo6
          simp (disch := omega) only [pV_some, pE_some, pU_some, st_add, st_sub, st_mul, st_quo, st_rem, st_eql, st_neq, st_lss, st_leq, st_gtr, st_geq, st_seq, st_sneq, st_beq, st_bneq, st_not, st_neg, st_lenS, st_capS, st_lenT, st_fldA, st_conv, st_pick, st_ext0, st_ext1, st_ext2, st_ext3, st_nilS, st_nilP, st_nilF, st_nilE, st_nilN, st_none, st_some, st_true, st_false, nilC, add_lit, Nat.zero_add, Nat.add_zero, nth0, nth1, nth2, nth3, nth4, nth5, nth6, List.getElem?_cons_succ, List.getElem?_cons_zero, cond_true, cond_false, pSC_orp, pSC_andp, wrap_i64, Bool.not_true, Bool.not_false, hx i hlt5, ld3 hs3.top hLp, hkk.len]
          refine pIf_of (fun hk2 => ?_) (fun hk2 => ?_)
          · have hk2 : k < L[i].1.d.length := by simpa using hk2
            obtain ⟨ad, i1, c1, _⟩ := own_set hkk hs5' (i := k) hk2 (x := k) rfl
            have hv : L[i].1.d[k] = -5 - (i : Int) := by
              have hm : L[i].1.d[k] ∈ List.replicate L[i].1.d.length (five i) := (congrArg (fun l => L[i].1.d[k] ∈ l) h5).mp (List.getElem_mem hk2)
              exact List.eq_of_mem_replicate hm
            simp (disch := omega) only [pV_some, pE_some, pU_some, st_add, st_sub, st_mul, st_quo, st_rem, st_eql, st_neq, st_lss, st_leq, st_gtr, st_geq, st_seq, st_sneq, st_beq, st_bneq, st_not, st_neg, st_lenS, st_capS, st_lenT, st_fldA, st_conv, st_pick, st_ext0, st_ext1, st_ext2, st_ext3, st_nilS, st_nilP, st_nilF, st_nilE, st_nilN, st_none, st_some, st_true, st_false, nilC, add_lit, Nat.zero_add, Nat.add_zero, nth0, nth1, nth2, nth3, nth4, nth5, nth6, List.getElem?_cons_succ, List.getElem?_cons_zero, cond_true, cond_false, pSC_orp, pSC_andp, wrap_i64, Bool.not_true, Bool.not_false, i1, ld1r c1, hv, decide_true, Bool.and_self]
            exact hgo6 _ _ hk2 ⟨by simp, rfl⟩
          · exact hgo5 _ _ hlt5 ⟨by simp, rfl⟩
        · -- written over
          refine pLoop_up (I := fun i vs w1 => ∃ L, vs = [.int .i64 (i : Nat)] ∧ L.length = ps.length ∧ St w M ((g, ⟨rows L ++ sp, 42⟩) :: inn) w1) ps.length 0 (by omega) ⟨L, rfl, hbL.1, hs3⟩ ?_
          rintro i vs w7 hi7 ⟨L, rfl, hLl, hs7⟩ go7 hgo7
          simp (disch := omega) only [pV_some, pE_some, pU_some, st_add, st_sub, st_mul, st_quo, st_rem, st_eql, st_neq, st_lss, st_leq, st_gtr, st_geq, st_seq, st_sneq, st_beq, st_bneq, st_not, st_neg, st_lenS, st_capS, st_lenT, st_fldA, st_conv, st_pick, st_ext0, st_ext1, st_ext2, st_ext3, st_nilS, st_nilP, st_nilF, st_nilE, st_nilN, st_none, st_some, st_true, st_false, nilC, add_lit, Nat.zero_add, Nat.add_zero, nth0, nth1, nth2, nth3, nth4, nth5, nth6, List.getElem?_cons_succ, List.getElem?_cons_zero, cond_true, cond_false, pSC_orp, pSC_andp, wrap_i64, Bool.not_true, Bool.not_false]
          refine pIf_of (fun hlt7 => ?_) (fun hlt7 => ?_)
          · have hlt7 : i < ps.length := by simpa using hlt7
            refine pV_eq (show _ = some (inV (⟨-9, 0, 0, []⟩, .slice none 0 0)) from rfl) ?_
            simp (disch := omega) only [pV_some, pE_some, pU_some, st_add, st_sub, st_mul, st_quo, st_rem, st_eql, st_neq, st_lss, st_leq, st_gtr, st_geq, st_seq, st_sneq, st_beq, st_bneq, st_not, st_neg, st_lenS, st_capS, st_lenT, st_fldA, st_conv, st_pick, st_ext0, st_ext1, st_ext2, st_ext3, st_nilS, st_nilP, st_nilF, st_nilE, st_nilN, st_none, st_some, st_true, st_false, nilC, add_lit, Nat.zero_add, Nat.add_zero, nth0, nth1, nth2, nth3, nth4, nth5, nth6, List.getElem?_cons_succ, List.getElem?_cons_zero, cond_true, cond_false, pSC_orp, pSC_andp, wrap_i64, Bool.not_true, Bool.not_false, hx i hlt7]
            refine pU_st hs7 (rows (L.set i (⟨-9, 0, 0, []⟩, .slice none 0 0)) ++ sp) (by simp [Value.cells]) (by rw [List.length_append, rows_len]; omega) (row_one rfl) (flat_put row 4 (fun _ => rfl) L i _ sp (by omega)).symm (fun w8 hs8 _ => ?_)
            exact hgo7 _ _ hlt7 ⟨_, by simp, by simpa using hLl, hs8⟩
          · have hown : OwnS 42 4 (.slice (some ⟨g, 0, none⟩) ps.length cap) L.length (rows L) [(g, ⟨rows L ++ sp, 42⟩)] :=
              ⟨rows_len L, .inr ⟨g, cap, sp, by rw [hLl], by omega, hc, by refine Nat.le_trans hcs (Nat.le_of_eq ?_); rw [List.length_append, List.length_append, rows_len, rows_len, hLl], rfl⟩⟩
            refine pLoop_up (I := fun i vs w1 => ∃ vo L o, vs = [vo, .int .i64 (i : Nat)] ∧ L.length = ps.length + i ∧ OwnS 42 4 vo L.length (rows L) o ∧ St w M (o ++ inn) w1) 64 0 (by omega) ⟨_, L, _, rfl, hLl, hown, hs7⟩ ?_
            rintro i vs w9 hi9 ⟨vo, L, o, rfl, hLl, ho9, hs9⟩ go9 hgo9
            simp (disch := omega) only [pV_some, pE_some, pU_some, st_add, st_sub, st_mul, st_quo, st_rem, st_eql, st_neq, st_lss, st_leq, st_gtr, st_geq, st_seq, st_sneq, st_beq, st_bneq, st_not, st_neg, st_lenS, st_capS, st_lenT, st_fldA, st_conv, st_pick, st_ext0, st_ext1, st_ext2, st_ext3, st_nilS, st_nilP, st_nilF, st_nilE, st_nilN, st_none, st_some, st_true, st_false, nilC, add_lit, Nat.zero_add, Nat.add_zero, nth0, nth1, nth2, nth3, nth4, nth5, nth6, List.getElem?_cons_succ, List.getElem?_cons_zero, cond_true, cond_false, pSC_orp, pSC_andp, wrap_i64, Bool.not_true, Bool.not_false]
            refine pIf_of (fun hlt9 => ?_) (fun hlt9 => ?_)
            · have hlt9 : i < 64 := by simp at hlt9; omega
              refine pV_eq (show _ = some (inV (⟨-8, 0, 0, []⟩, .slice none 0 0)) from rfl) ?_
              refine more_spec (p := (⟨-8, 0, 0, []⟩, .slice none 0 0)) ho9 hs9 rfl (by omega) (fun v6 o6 w6 ho6 hs6 => ?_)
              exact hgo9 _ _ hlt9 ⟨v6, _, o6, by simp, by simp [hLl]; omega, ho6, hs6⟩
            · obtain rfl : i = 64 := by simp at hlt9; omega
              have hfin : decide (((ps.length + 64 : Nat) : Int) = (ps.length : Int) + 64) = true := by simp
              simp (disch := omega) only [pV_some, pE_some, pU_some, st_add, st_sub, st_mul, st_quo, st_rem, st_eql, st_neq, st_lss, st_leq, st_gtr, st_geq, st_seq, st_sneq, st_beq, st_bneq, st_not, st_neg, st_lenS, st_capS, st_lenT, st_fldA, st_conv, st_pick, st_ext0, st_ext1, st_ext2, st_ext3, st_nilS, st_nilP, st_nilF, st_nilE, st_nilN, st_none, st_some, st_true, st_false, nilC, add_lit, Nat.zero_add, Nat.add_zero, nth0, nth1, nth2, nth3, nth4, nth5, nth6, List.getElem?_cons_succ, List.getElem?_cons_zero, cond_true, cond_false, pSC_orp, pSC_andp, wrap_i64, Bool.not_true, Bool.not_false, ho9.len, hLl, hfin, Bool.and_self]
              exact k w9 hs9.tr
end Go.Proofs.Ytcghhhjklihpkaa
