/- script: 'left', 'turned', 'spoilt'. -/
import Derived.Test.YtcghhhjklihpkaaSmF
set_option linter.unusedSimpArgs false
set_option linter.unusedVariables false
namespace Go.Proofs.Ytcghhhjklihpkaa
open Go.Bk Go.RowKit

/-- 'left' is true of what still reads as it was handed in. -/
theorem left_spec {w0 : World} {a whole v : Value} {qs ws ps : List (In × Value)} (ha : InsR w0 a qs) (hw : InsR w0 whole ws) (hp : InsR w0 v ps) (fp : Fits ps) (hq : qs.map (·.1) = ps.map (·.1)) (hws : ws.map (·.1) = (ps.map (·.1)).map wide ++ marks.map (·.1))
    {v2 : Value} (hm : slV 4 a none (some (.int .i64 (ps.length + 8))) none = some v2) (hm2 : InsR w0 v2 (qs ++ marks)) {K : Value → World → Prop}
    (k : ∀ w', St w0 no [] w' → K (.bool true) w') : F12 a whole v w0 K := by
  unfold F12
  have fp1 := fp.1
  have hl : qs.length = ps.length := by simpa using congrArg List.length hq
  refine F5_pc (handed_spec hp fp (fun a1 wh1 zs oa ow inn w1 hz _ how hin _ hs1 => ?_))
  have hwant : InsR w1 wh1 (zs.map wideP ++ marks) := ⟨how.reads (h := oa ++ inn) (hs1.re (fun _ => by simp only [cnt_nil, cnt_cons, cnt_append]; omega)), hin.reads (r := oa ++ ow) (hs1.re (fun _ => by simp only [cnt_nil, cnt_cons, cnt_append]; omega))⟩
  simp (disch := omega) only [pV_some, pE_some, pU_some, st_add, st_sub, st_mul, st_quo, st_rem, st_eql, st_neq, st_lss, st_leq, st_gtr, st_geq, st_seq, st_sneq, st_beq, st_bneq, st_not, st_neg, st_lenS, st_capS, st_lenT, st_fldA, st_conv, st_pick, st_ext0, st_ext1, st_ext2, st_ext3, st_nilS, st_nilP, st_nilF, st_nilE, st_nilN, st_none, st_some, st_true, st_false, nilC, add_lit, Nat.zero_add, Nat.add_zero, nth0, nth1, nth2, nth3, nth4, nth5, nth6, List.getElem?_cons_succ, List.getElem?_cons_zero, cond_true, cond_false, pSC_orp, pSC_andp, wrap_i64, Bool.not_true, Bool.not_false, ha.c.len, hp.c.len, hl, decide_true]
  have heq : ws.map (·.1) = (zs.map wideP ++ marks).map (·.1) := by
    rw [hws, List.map_append, ← hz]
    congr 1
    simp only [List.map_map]
    rfl
  have hwsl : ws.length = ps.length + 8 := by
    have := congrArg List.length hws
    simpa [marks] using this
  have hbw : ∀ p ∈ ws, p.1.d.length ≤ 2147483647 := by
    intro p hp
    have : p.1 ∈ ws.map (·.1) := List.mem_map.2 ⟨p, hp, rfl⟩
    rw [hws] at this
    rcases List.mem_append.1 this with h | h
    · obtain ⟨x, hx, he⟩ := List.mem_map.1 h
      obtain ⟨q, hq, rfl⟩ := List.mem_map.1 hx
      rw [← he]
      have := fp.2 q hq
      simp [wide]
      omega
    · obtain ⟨q, hq, he⟩ := List.mem_map.1 h
      rw [← he]
      simp [marks, List.mem_replicate] at hq
      simp [hq, mark]
  have hbq : ∀ p ∈ qs, p.1.d.length ≤ 2147483647 := by
    intro p hp
    have : p.1 ∈ qs.map (·.1) := List.mem_map.2 ⟨p, hp, rfl⟩
    rw [hq] at this
    obtain ⟨q, hq, he⟩ := List.mem_map.1 this
    rw [← he]
    have := fp.2 q hq
    omega
  refine pSC_or_f rfl (F10_pc (same_spec (hw.gr hs1.tr) hwant hbw (by omega) (fun w2 hs2 => ?_)))
  simp (disch := omega) only [pV_some, pE_some, pU_some, st_add, st_sub, st_mul, st_quo, st_rem, st_eql, st_neq, st_lss, st_leq, st_gtr, st_geq, st_seq, st_sneq, st_beq, st_bneq, st_not, st_neg, st_lenS, st_capS, st_lenT, st_fldA, st_conv, st_pick, st_ext0, st_ext1, st_ext2, st_ext3, st_nilS, st_nilP, st_nilF, st_nilE, st_nilN, st_none, st_some, st_true, st_false, nilC, add_lit, Nat.zero_add, Nat.add_zero, nth0, nth1, nth2, nth3, nth4, nth5, nth6, List.getElem?_cons_succ, List.getElem?_cons_zero, cond_true, cond_false, pSC_orp, pSC_andp, wrap_i64, Bool.not_true, Bool.not_false, heq, decide_true]
  refine pSC_or_f rfl (F10_pc (same_spec (ha.gr (hs1.call hs2).tr) (hp.gr (hs1.call hs2).tr) hbq (by omega) (fun w3 hs3 => ?_)))
  have hs3' := (hs1.call hs2).call hs3
  simp (disch := omega) only [pV_some, pE_some, pU_some, st_add, st_sub, st_mul, st_quo, st_rem, st_eql, st_neq, st_lss, st_leq, st_gtr, st_geq, st_seq, st_sneq, st_beq, st_bneq, st_not, st_neg, st_lenS, st_capS, st_lenT, st_fldA, st_conv, st_pick, st_ext0, st_ext1, st_ext2, st_ext3, st_nilS, st_nilP, st_nilF, st_nilE, st_nilN, st_none, st_some, st_true, st_false, nilC, add_lit, Nat.zero_add, Nat.add_zero, nth0, nth1, nth2, nth3, nth4, nth5, nth6, List.getElem?_cons_succ, List.getElem?_cons_zero, cond_true, cond_false, pSC_orp, pSC_andp, wrap_i64, Bool.not_true, Bool.not_false, hq, decide_true, hm]
  refine pLoop_up (I := fun i vs w => vs = [.int .i64 (i : Nat)] ∧ ps.length ≤ i ∧ St w0 no [] w) (ps.length + 8) ps.length (by omega) ⟨rfl, Nat.le_refl _, hs3'.re (fun _ => by simp only [cnt_nil, cnt_cons, cnt_append]; omega)⟩ ?_
  rintro i vs w4 hi ⟨rfl, hin, hs4⟩ go hgo
  simp (disch := omega) only [pV_some, pE_some, pU_some, st_add, st_sub, st_mul, st_quo, st_rem, st_eql, st_neq, st_lss, st_leq, st_gtr, st_geq, st_seq, st_sneq, st_beq, st_bneq, st_not, st_neg, st_lenS, st_capS, st_lenT, st_fldA, st_conv, st_pick, st_ext0, st_ext1, st_ext2, st_ext3, st_nilS, st_nilP, st_nilF, st_nilE, st_nilN, st_none, st_some, st_true, st_false, nilC, add_lit, Nat.zero_add, Nat.add_zero, nth0, nth1, nth2, nth3, nth4, nth5, nth6, List.getElem?_cons_succ, List.getElem?_cons_zero, cond_true, cond_false, pSC_orp, pSC_andp, wrap_i64, Bool.not_true, Bool.not_false, hm2.c.len, List.length_append, hl]
  refine pIf_of (fun hlt => ?_) (fun hlt => ?_)
  · have hlt : i < ps.length + 8 := by simp [marks] at hlt; omega
    · have hg : (qs ++ marks)[i]? = some mark := by
        rw [List.getElem?_append_right (by omega), marks, List.getElem?_replicate, if_pos (by omega)]
      obtain ⟨a1, i1, c1⟩ := (hm2.gr hs4.tr).at hg (x := i) rfl
      simp (disch := omega) only [pV_some, pE_some, pU_some, st_add, st_sub, st_mul, st_quo, st_rem, st_eql, st_neq, st_lss, st_leq, st_gtr, st_geq, st_seq, st_sneq, st_beq, st_bneq, st_not, st_neg, st_lenS, st_capS, st_lenT, st_fldA, st_conv, st_pick, st_ext0, st_ext1, st_ext2, st_ext3, st_nilS, st_nilP, st_nilF, st_nilE, st_nilN, st_none, st_some, st_true, st_false, nilC, add_lit, Nat.zero_add, Nat.add_zero, nth0, nth1, nth2, nth3, nth4, nth5, nth6, List.getElem?_cons_succ, List.getElem?_cons_zero, cond_true, cond_false, pSC_orp, pSC_andp, wrap_i64, Bool.not_true, Bool.not_false, i1, c1.fld (j := 0) rfl, mark, decide_true]
      exact hgo _ _ hlt ⟨by simp, by omega, hs4⟩
  · exact k w4 hs4

/-- Writing one of one's own numbers. -/
theorem own_set {w0 w : World} {M : Nat → Prop} {r kk : HP} {s : Value} {d : List Int} (ho : OwnI s d kk) (hs : St w0 M (kk ++ r) w) {i : Nat} (hi : i < d.length) {x : Int} (hx : x = i) :
    ∃ ad, idxV 1 s (.int .i64 x) = some (.pointer (some ad)) ∧ w.cell? ad = some (.int .i64 d[i]) ∧ ∀ (y : Int) (w1 : World) (K : World → Prop), St w0 M (kk ++ r) w1 → (∀ kk' w', OwnI s (d.set i y) kk' → St w0 M (kk' ++ r) w' → K w') → pU (stE 1 (.pointer (some ad)) (.int .i64 y) w1) K := by
  rcases ho.2 with ⟨_, h0, _⟩ | ⟨g, cap, sp, rfl, hn, hc, hcs, rfl⟩
  · omega
  · refine ⟨⟨g, 0 + i * 1, none⟩, idx_lit hi hx, ?_, fun y w1 K hs1 k => ?_⟩
    · rw [(hs.has _ (List.mem_cons_self ..)).cell]
      simp only [Nat.zero_add, Nat.mul_one]
      rw [List.getElem?_append_left (by rw [ints_len]; exact hi)]
      exact ints_at (List.getElem?_eq_getElem hi)
    · rw [Nat.zero_add, Nat.mul_one]
      refine pU_set hs1 rfl (ints (d.set i y) ++ sp) (by rw [List.length_append, ints_len]; omega) ?_ (fun w' hs' _ => k [(g, ⟨ints (d.set i y) ++ sp, 2⟩)] w' ?_ hs')
      · rw [List.set_append_left _ _ (by rw [ints_len]; exact hi)]
        simp [ints, List.map_set, I]
      · refine ⟨by simp [ints], .inr ⟨g, cap, sp, by simp, by simpa using hn, hc, ?_, rfl⟩⟩
        refine Nat.le_trans hcs (Nat.le_of_eq ?_)
        simp [ints]

theorem rows_same {L : List (In × Value)} {i : Nat} {p p' : In × Value} (hp : L[i]? = some p) (he : row p' = row p) : rows (L.set i p') = rows L := by
  have h := flat_put row 4 (fun _ => rfl) L i p' [] (List.getElem?_eq_some_iff.1 hp).1
  have h2 := flat_put row 4 (fun _ => rfl) L i p [] (List.getElem?_eq_some_iff.1 hp).1
  rw [he] at h
  have h3 : L.set i p = L := by
    have h4 := (List.getElem?_eq_some_iff.1 hp).2
    rw [← h4, List.set_getElem_self]
  rw [h3] at h2
  simp only [List.append_nil] at h h2
  exact h.symm.trans h2

def Bnd (n B : Nat) (L : List (In × Value)) : Prop := L.length = n ∧ ∀ p ∈ L, p.1.d.length ≤ B
theorem Bnd.set {n B : Nat} {L : List (In × Value)} (h : Bnd n B L) {i : Nat} {p : In × Value} (hp : p.1.d.length ≤ B) : Bnd n B (L.set i p) :=
  ⟨by rw [List.length_set]; exact h.1, fun q hq => by
    rcases List.mem_or_eq_of_mem_set hq with hq | rfl
    · exact h.2 q hq
    · exact hp⟩

/-- 'turned' leaves a list of inputs of as many. -/
theorem turned_gen {w0 w : World} {M : Nat → Prop} {a : Value} {qs : List (In × Value)} {o inn r : HP} (ho : OwnS 42 4 a qs.length (rows qs) o) (hi : Inn qs inn) (hs : St w0 M (o ++ (inn ++ r)) w) {B : Nat} (hB : B ≤ 1073741824) (fq1 : qs.length ≤ 134217728) (fq2 : ∀ p ∈ qs, p.1.d.length ≤ B) {K : Value → World → Prop}
    (k : ∀ (qs' : List (In × Value)) (o' inn' : HP) (w' : World), OwnS 42 4 a qs'.length (rows qs') o' → Inn qs' inn' → qs'.length ≤ 134217728 → (∀ p ∈ qs', p.1.d.length ≤ B) → St w0 M (o' ++ (inn' ++ r)) w' → K (.tuple #[]) w') : F13 a w K := by
  unfold F13
  rcases ho.2 with ⟨rfl, h0, rfl⟩ | ⟨g, cap, sp, rfl, hn, hc, hcs, rfl⟩
  · have hnil : qs = [] := List.eq_nil_of_length_eq_zero h0
    subst hnil
    refine ⟨fun m vs w => vs = [.int .i64 0] ∧ St w0 M ([] ++ (inn ++ r)) w, 0, ⟨rfl, hs⟩, ?_⟩
    rintro m vs w1 ⟨rfl, hs1⟩
    simp (disch := omega) only [pV_some, pE_some, pU_some, st_add, st_sub, st_mul, st_quo, st_rem, st_eql, st_neq, st_lss, st_leq, st_gtr, st_geq, st_seq, st_sneq, st_beq, st_bneq, st_not, st_neg, st_lenS, st_capS, st_lenT, st_fldA, st_conv, st_pick, st_ext0, st_ext1, st_ext2, st_ext3, st_nilS, st_nilP, st_nilF, st_nilE, st_nilN, st_none, st_some, st_true, st_false, nilC, add_lit, Nat.zero_add, Nat.add_zero, nth0, nth1, nth2, nth3, nth4, nth5, nth6, List.getElem?_cons_succ, List.getElem?_cons_zero, cond_true, cond_false, pSC_orp, pSC_andp, wrap_i64, Bool.not_true, Bool.not_false, st_quo (show (2:Int) ≠ 0 by decide)]
    refine pIf_of (fun h => absurd h (by decide)) (fun _ => ?_)
    refine ⟨fun m vs w => vs = [.int .i64 0] ∧ St w0 M ([] ++ (inn ++ r)) w, 0, ⟨rfl, hs1⟩, ?_⟩
    rintro m vs w2 ⟨rfl, hs2⟩
    simp (disch := omega) only [pV_some, pE_some, pU_some, st_add, st_sub, st_mul, st_quo, st_rem, st_eql, st_neq, st_lss, st_leq, st_gtr, st_geq, st_seq, st_sneq, st_beq, st_bneq, st_not, st_neg, st_lenS, st_capS, st_lenT, st_fldA, st_conv, st_pick, st_ext0, st_ext1, st_ext2, st_ext3, st_nilS, st_nilP, st_nilF, st_nilE, st_nilN, st_none, st_some, st_true, st_false, nilC, add_lit, Nat.zero_add, Nat.add_zero, nth0, nth1, nth2, nth3, nth4, nth5, nth6, List.getElem?_cons_succ, List.getElem?_cons_zero, cond_true, cond_false, pSC_orp, pSC_andp, wrap_i64, Bool.not_true, Bool.not_false]
    refine pIf_of (fun h => absurd h (by decide)) (fun _ => ?_)
    exact k [] [] inn w2 (ownS_nil _ _) hi (by simp) (by simp) hs2
  · -- the rows
    have hrow : ∀ (L : List (In × Value)), L.length = qs.length → OwnS 42 4 (.slice (some ⟨g, 0, none⟩) qs.length cap) L.length (rows L) [(g, ⟨rows L ++ sp, 42⟩)] := fun L hL =>
      ⟨rows_len L, .inr ⟨g, cap, sp, by rw [hL], by omega, hc, by refine Nat.le_trans hcs (Nat.le_of_eq ?_); rw [List.length_append, List.length_append, rows_len, rows_len, hL], rfl⟩⟩
    refine pLoop_up (I := fun i vs w => ∃ L, vs = [.int .i64 (i : Nat)] ∧ L.Perm qs ∧ L.length = qs.length ∧ St w0 M ((g, ⟨rows L ++ sp, 42⟩) :: (inn ++ r)) w) (qs.length / 2) 0 (by omega) ⟨qs, rfl, List.Perm.refl _, rfl, hs⟩ ?_
    rintro i vs w1 hi1 ⟨L, rfl, hL, hLl, hs1⟩ go hgo
    have hq2 : IntKind.i64.wrap (Int.tdiv (qs.length : Int) 2) = ((qs.length / 2 : Nat) : Int) := by
      have : Int.tdiv (qs.length : Int) 2 = ((qs.length / 2 : Nat) : Int) := rfl
      rw [this, wrap_i64 (by omega) (by omega)]
    simp (disch := omega) only [pV_some, pE_some, pU_some, st_add, st_sub, st_mul, st_quo, st_rem, st_eql, st_neq, st_lss, st_leq, st_gtr, st_geq, st_seq, st_sneq, st_beq, st_bneq, st_not, st_neg, st_lenS, st_capS, st_lenT, st_fldA, st_conv, st_pick, st_ext0, st_ext1, st_ext2, st_ext3, st_nilS, st_nilP, st_nilF, st_nilE, st_nilN, st_none, st_some, st_true, st_false, nilC, add_lit, Nat.zero_add, Nat.add_zero, nth0, nth1, nth2, nth3, nth4, nth5, nth6, List.getElem?_cons_succ, List.getElem?_cons_zero, cond_true, cond_false, pSC_orp, pSC_andp, wrap_i64, Bool.not_true, Bool.not_false, st_quo (show (2:Int) ≠ 0 by decide), hq2]
    refine pIf_of (fun hlt => ?_) (fun hlt => ?_)
    · have hlt : i < qs.length / 2 := by have := of_decide_eq_true hlt; omega
      have hi2 : i < L.length := by omega
      have hj2 : qs.length - 1 - i < L.length := by omega
      have hLi := List.getElem?_eq_getElem hi2
      have hLj := List.getElem?_eq_getElem hj2
      have hx1 := idx_lit (sz := 4) (n := qs.length) (c := cap) (g := g) (o := 0) (i := i) (by omega) (x := i) rfl
      have hx2 := idx_lit (sz := 4) (n := qs.length) (c := cap) (g := g) (o := 0) (i := qs.length - 1 - i) (by omega) (x := (qs.length : Int) - 1 - i) (by omega)
      have ld : ∀ (L : List (In × Value)) (w : World) (i : Nat) (p : In × Value), Has w g ⟨rows L ++ sp, 42⟩ → L[i]? = some p → ldV true 4 w (.pointer (some ⟨g, i * 4, none⟩)) = some (inV p) := by
        intro L w i p hh hp
        refine row_ld (p := p) (fun j u hu => ?_)
        rw [add_lit, hh.cell]
        have hj : j < 4 := by have := (List.getElem?_eq_some_iff.1 hu).1; simpa [row] using this
        rw [show (rows L ++ sp)[i * 4 + j]? = _ from flat_get row 4 (fun _ => rfl) L i p sp hp j hj]
        exact hu
      simp (disch := omega) only [pV_some, pE_some, pU_some, st_add, st_sub, st_mul, st_quo, st_rem, st_eql, st_neq, st_lss, st_leq, st_gtr, st_geq, st_seq, st_sneq, st_beq, st_bneq, st_not, st_neg, st_lenS, st_capS, st_lenT, st_fldA, st_conv, st_pick, st_ext0, st_ext1, st_ext2, st_ext3, st_nilS, st_nilP, st_nilF, st_nilE, st_nilN, st_none, st_some, st_true, st_false, nilC, add_lit, Nat.zero_add, Nat.add_zero, nth0, nth1, nth2, nth3, nth4, nth5, nth6, List.getElem?_cons_succ, List.getElem?_cons_zero, cond_true, cond_false, pSC_orp, pSC_andp, wrap_i64, Bool.not_true, Bool.not_false, hx1, hx2, ld L w1 i _ hs1.top hLi]
      refine pE_boxc hs1 [.int .i64 0, .int .i64 0, .int .i64 0, .slice none 0 0] rfl (fun b1 w2 hs2 ht2 _ => ?_)
      have one : ∀ p ∈ L, oneC p.2 = true := fun p hp => hi.one p (hL.mem_iff.1 hp)
      refine pU_st hs2 (row L[i]) rfl (by simp [Value.cells]) (row_one (one _ (List.getElem_mem hi2))) rfl (fun w3 hs3 _ => ?_)
      have hs3' : St w0 M ((g, ⟨rows L ++ sp, 42⟩) :: ((b1, ⟨row L[i], 42⟩) :: (inn ++ r))) w3 := hs3.re (fun _ => by simp only [cnt_nil, cnt_cons, cnt_append]; omega)
      simp (disch := omega) only [pV_some, pE_some, pU_some, st_add, st_sub, st_mul, st_quo, st_rem, st_eql, st_neq, st_lss, st_leq, st_gtr, st_geq, st_seq, st_sneq, st_beq, st_bneq, st_not, st_neg, st_lenS, st_capS, st_lenT, st_fldA, st_conv, st_pick, st_ext0, st_ext1, st_ext2, st_ext3, st_nilS, st_nilP, st_nilF, st_nilE, st_nilN, st_none, st_some, st_true, st_false, nilC, add_lit, Nat.zero_add, Nat.add_zero, nth0, nth1, nth2, nth3, nth4, nth5, nth6, List.getElem?_cons_succ, List.getElem?_cons_zero, cond_true, cond_false, pSC_orp, pSC_andp, wrap_i64, Bool.not_true, Bool.not_false, ld L w3 _ _ hs3'.top hLj]
      refine pU_st hs3' (rows (L.set i L[qs.length - 1 - i]) ++ sp) (by simp [Value.cells]) (by rw [List.length_append, rows_len]; omega) (row_one (one _ (List.getElem_mem hj2))) (flat_put row 4 (fun _ => rfl) L i _ sp hi2).symm (fun w4 hs4 _ => ?_)
      have hs4' : St w0 M ((b1, ⟨row L[i], 42⟩) :: ((g, ⟨rows (L.set i L[qs.length - 1 - i]) ++ sp, 42⟩) :: (inn ++ r))) w4 := hs4.re (fun _ => by simp only [cnt_nil, cnt_cons, cnt_append]; omega)
      have hldb : ldV true 4 w4 (.pointer (some ⟨b1, 0, none⟩)) = some (inV L[i]) := hs4'.top.ldw (sz := 4) rfl
      simp (disch := omega) only [pV_some, pE_some, pU_some, st_add, st_sub, st_mul, st_quo, st_rem, st_eql, st_neq, st_lss, st_leq, st_gtr, st_geq, st_seq, st_sneq, st_beq, st_bneq, st_not, st_neg, st_lenS, st_capS, st_lenT, st_fldA, st_conv, st_pick, st_ext0, st_ext1, st_ext2, st_ext3, st_nilS, st_nilP, st_nilF, st_nilE, st_nilN, st_none, st_some, st_true, st_false, nilC, add_lit, Nat.zero_add, Nat.add_zero, nth0, nth1, nth2, nth3, nth4, nth5, nth6, List.getElem?_cons_succ, List.getElem?_cons_zero, cond_true, cond_false, pSC_orp, pSC_andp, wrap_i64, Bool.not_true, Bool.not_false, hldb]
      refine pU_st hs4 (rows ((L.set i L[qs.length - 1 - i]).set (qs.length - 1 - i) L[i]) ++ sp) (by simp [Value.cells]) (by rw [List.length_append, rows_len, List.length_set]; omega) (row_one (one _ (List.getElem_mem hi2))) (flat_put row 4 (fun _ => rfl) _ _ _ sp (by rw [List.length_set]; omega)).symm (fun w5 hs5 _ => ?_)
      refine hgo _ _ hlt ⟨_, by simp, (List.set_set_perm hi2 hj2).trans hL, by simpa using hLl, hs5.re (fun _ => by simp only [cnt_nil, cnt_cons, cnt_append]; omega)⟩
    · -- the words
      have hiL : Inn L inn := OwnAll.perm hL.symm _ hi
      have hbL : Bnd qs.length B L := ⟨hLl, fun p hp => fq2 p (hL.mem_iff.1 hp)⟩
      refine pLoop_up (I := fun i vs w => ∃ L inn, vs = [.int .i64 (i : Nat)] ∧ Bnd qs.length B L ∧ Inn L inn ∧ St w0 M ((g, ⟨rows L ++ sp, 42⟩) :: (inn ++ r)) w) qs.length 0 (by omega) ⟨L, inn, rfl, hbL, hiL, hs1⟩ ?_
      rintro i vs w2 hi2 ⟨L, inn, rfl, hbL, hiL, hs2⟩ go2 hgo2
      simp (disch := omega) only [pV_some, pE_some, pU_some, st_add, st_sub, st_mul, st_quo, st_rem, st_eql, st_neq, st_lss, st_leq, st_gtr, st_geq, st_seq, st_sneq, st_beq, st_bneq, st_not, st_neg, st_lenS, st_capS, st_lenT, st_fldA, st_conv, st_pick, st_ext0, st_ext1, st_ext2, st_ext3, st_nilS, st_nilP, st_nilF, st_nilE, st_nilN, st_none, st_some, st_true, st_false, nilC, add_lit, Nat.zero_add, Nat.add_zero, nth0, nth1, nth2, nth3, nth4, nth5, nth6, List.getElem?_cons_succ, List.getElem?_cons_zero, cond_true, cond_false, pSC_orp, pSC_andp, wrap_i64, Bool.not_true, Bool.not_false]
      refine pIf_of (fun hlt => ?_) (fun hlt => ?_)
      · have hlt : i < qs.length := by simpa using hlt
        have hx1 := idx_lit (sz := 4) (n := qs.length) (c := cap) (g := g) (o := 0) (i := i) (by omega) (x := i) rfl
        refine ⟨fun m vs w => ∃ L inn p, vs = [.int .i64 ((p.1.d.length - m : Nat) : Int)] ∧ m ≤ p.1.d.length ∧ L[i]? = some p ∧ Bnd qs.length B L ∧ Inn L inn ∧ St w0 M ((g, ⟨rows L ++ sp, 42⟩) :: (inn ++ r)) w, (L[i]'(by rw [hbL.1]; exact hlt)).1.d.length, ⟨L, inn, L[i]'(by rw [hbL.1]; exact hlt), by simp, Nat.le_refl _, by simp, hbL, hiL, hs2⟩, ?_⟩
        rintro m vs w3 ⟨L, inn, p, rfl, hm, hLp, hbL, hiL, hs3⟩
        have hbp := hbL.2 p (List.mem_of_getElem? hLp)
        have ld3 : ∀ w, Has w g ⟨rows L ++ sp, 42⟩ → ldV false 1 w (.pointer (some ⟨g, i * 4 + 3, none⟩)) = some p.2 := by
          intro w hh
          rw [hh.ld]
          exact flat_get row 4 (fun _ => rfl) L i p sp hLp 3 (by omega)
        obtain ⟨kk, gg, hkk, hcnt, hput⟩ := OwnAll.focus hiL hLp
        simp (disch := omega) only [pV_some, pE_some, pU_some, st_add, st_sub, st_mul, st_quo, st_rem, st_eql, st_neq, st_lss, st_leq, st_gtr, st_geq, st_seq, st_sneq, st_beq, st_bneq, st_not, st_neg, st_lenS, st_capS, st_lenT, st_fldA, st_conv, st_pick, st_ext0, st_ext1, st_ext2, st_ext3, st_nilS, st_nilP, st_nilF, st_nilE, st_nilN, st_none, st_some, st_true, st_false, nilC, add_lit, Nat.zero_add, Nat.add_zero, nth0, nth1, nth2, nth3, nth4, nth5, nth6, List.getElem?_cons_succ, List.getElem?_cons_zero, cond_true, cond_false, pSC_orp, pSC_andp, wrap_i64, Bool.not_true, Bool.not_false, hx1, ld3 w3 hs3.top, hkk.len]
        refine pIf_of (fun hk => ?_) (fun hk => ?_)
        · have hk : p.1.d.length - m < p.1.d.length := by simpa using hk
          refine pDraw_st hs3 (fun w4 hs4 ht4 => ?_)
          have hs4' : St w0 M (kk ++ (gg ++ ((g, ⟨rows L ++ sp, 42⟩) :: r))) w4 := hs4.re (fun a => by simp only [cnt_cons, cnt_append, hcnt]; omega)
          obtain ⟨ad, i1, c1, hput1⟩ := own_set hkk hs4' hk (x := ((p.1.d.length - m : Nat) : Int)) rfl
          simp (disch := omega) only [pV_some, pE_some, pU_some, st_add, st_sub, st_mul, st_quo, st_rem, st_eql, st_neq, st_lss, st_leq, st_gtr, st_geq, st_seq, st_sneq, st_beq, st_bneq, st_not, st_neg, st_lenS, st_capS, st_lenT, st_fldA, st_conv, st_pick, st_ext0, st_ext1, st_ext2, st_ext3, st_nilS, st_nilP, st_nilF, st_nilE, st_nilN, st_none, st_some, st_true, st_false, nilC, add_lit, Nat.zero_add, Nat.add_zero, nth0, nth1, nth2, nth3, nth4, nth5, nth6, List.getElem?_cons_succ, List.getElem?_cons_zero, cond_true, cond_false, pSC_orp, pSC_andp, wrap_i64, Bool.not_true, Bool.not_false, ld3 w4 hs4.top, i1, ld1r c1]
          refine hput1 _ w4 _ hs4' (fun kk' w5 hkk' hs5 => ?_)
          have hp' : OwnI p.2 (p.1.d.set (p.1.d.length - m) (IntKind.i64.wrap (-1 - p.1.d[p.1.d.length - m]))) kk' := hkk'
          refine ⟨m - 1, by omega, L.set i ((⟨p.1.t, p.1.k, p.1.g, p.1.d.set (p.1.d.length - m) (IntKind.i64.wrap (-1 - p.1.d[p.1.d.length - m]))⟩, p.2) : In × Value), kk' ++ gg, ((⟨p.1.t, p.1.k, p.1.g, p.1.d.set (p.1.d.length - m) (IntKind.i64.wrap (-1 - p.1.d[p.1.d.length - m]))⟩, p.2) : In × Value), ?_, ?_, ?_, ?_, hput _ _ hp', ?_⟩
          · simp; omega
          · simp; omega
          · rw [List.getElem?_set_self (by rw [hbL.1]; exact hlt)]
          · exact hbL.set (by simpa using hbp)
          · have hsame : rows (L.set i ((⟨p.1.t, p.1.k, p.1.g, p.1.d.set (p.1.d.length - m) (IntKind.i64.wrap (-1 - p.1.d[p.1.d.length - m]))⟩, p.2) : In × Value)) = rows L := rows_same hLp rfl
            rw [hsame]
            exact hs5.re (fun _ => by simp only [cnt_nil, cnt_cons, cnt_append]; omega)
        · refine hgo2 _ _ hlt ⟨L, inn, by simp, hbL, hiL, hs3⟩
      · exact k L _ inn w2 (hrow L hbL.1) hiL (by rw [hbL.1]; exact fq1) hbL.2 hs2
theorem turned_spec {w0 w : World} {M : Nat → Prop} {a : Value} {qs : List (In × Value)} {o inn r : HP} (ho : OwnS 42 4 a qs.length (rows qs) o) (hi : Inn qs inn) (hs : St w0 M (o ++ (inn ++ r)) w) (fq : Fits qs) {K : Value → World → Prop}
    (k : ∀ (qs' : List (In × Value)) (o' inn' : HP) (w' : World), OwnS 42 4 a qs'.length (rows qs') o' → Inn qs' inn' → Fits qs' → St w0 M (o' ++ (inn' ++ r)) w' → K (.tuple #[]) w') : F13 a w K :=
  turned_gen ho hi hs (Nat.le_refl _) fq.1 fq.2 (fun qs' o' inn' w' h1 h2 h3 h4 h5 => k qs' o' inn' w' h1 h2 ⟨h3, h4⟩ h5)
end Go.Proofs.Ytcghhhjklihpkaa
