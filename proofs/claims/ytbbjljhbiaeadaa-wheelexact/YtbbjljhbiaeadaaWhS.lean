/- wheel: held: lists that were told are their holder's. -/
import Derived.Test.YtbbjljhbiaeadaaWhR
set_option linter.unusedSimpArgs false
set_option linter.unusedVariables false
set_option maxRecDepth 100000
namespace Go.Proofs.Ytbbjljhbiaeadaa
open Go.Bk Go.RowKit

abbrev VL := Value × List (Int × Int)
def R1 (x : VL) (k : HP) : Prop := OwnF x.1 x.2 k
def R2 (y : VL × Value) (k : HP) : Prop := Sup y.1.1 y.1.2 k ∧ Sup y.2 (y.1.2 ++ List.replicate 70 (0, 0)) k
theorem R1.all {w0 w : World} {M : Nat → Prop} {D : List VL} {h r : HP} (ho : OwnAll R1 D h) (hs : St w0 M (h ++ r) w) {i : Nat} {x : VL} (hx : D[i]? = some x) : RdF w x.1 x.2 :=
  ho.reads hs (Q := fun x => RdF w x.1 x.2) (fun x k r h hs => OwnS.reads h hs) x (List.mem_of_getElem? hx)
/-- What stands in the lists once i of them are written. -/
def mk (i : Nat) (D : List VL) : List VL := D.mapIdx fun j x => (x.1, if j < i then List.replicate x.2.length (-7, (j : Int)) else x.2)
theorem mk_get (i : Nat) (D : List VL) (j : Nat) : (mk i D)[j]? = (D[j]?).map fun x => (x.1, if j < i then List.replicate x.2.length (-7, (j : Int)) else x.2) := by
  unfold mk; rw [List.getElem?_mapIdx]
theorem mk_len (i : Nat) (D : List VL) : (mk i D).length = D.length := by unfold mk; simp
theorem mk_zero (D : List VL) : mk 0 D = D := by
  apply List.ext_getElem?
  intro j
  rw [mk_get]
  cases D[j]? <;> simp
theorem mk_fst (i : Nat) (D : List VL) : (mk i D).map (·.1) = D.map (·.1) := by
  apply List.ext_getElem?
  intro j
  rw [List.getElem?_map, List.getElem?_map, mk_get]
  cases D[j]? <;> simp
theorem mk_set {i : Nat} {D : List VL} {x : VL} (hx : D[i]? = some x) : (mk i D).set i (x.1, List.replicate x.2.length (-7, (i : Int))) = mk (i + 1) D := by
  apply List.ext_getElem?
  intro j
  rw [List.getElem?_set, mk_get, mk_get, mk_len]
  by_cases h : i = j
  · subst h
    rw [if_pos rfl, if_pos (List.getElem?_eq_some_iff.1 hx).1, hx]
    simp
  · rw [if_neg h]
    cases D[j]? with
    | none => rfl
    | some y =>
      simp only [Option.map_some]
      by_cases h2 : j < i
      · rw [if_pos h2, if_pos (by omega)]
      · rw [if_neg h2, if_neg (by omega)]
theorem rep_set {α : Type} (c : α) {l : List α} {k : Nat} (hk : k < l.length) : (List.replicate k c ++ l.drop k).set k c = List.replicate (k + 1) c ++ l.drop (k + 1) := by
  rw [List.set_append_right _ _ (by simp), List.length_replicate, Nat.sub_self, List.drop_eq_getElem_cons hk, List.set_cons_zero, List.replicate_succ', List.append_assoc]
  rfl

theorem held_spec {w0 w : World} {M : Nat → Prop} {D E : List VL} {va vb : Value} {ha hd hb he r : HP} (hall : OwnLL va (D.map (·.1)) ha) (hD : OwnAll R1 D hd) (hall2 : OwnLL vb (E.map (·.1)) hb) (hE : OwnAll R1 E he)
    (heq : D.map (·.2) = E.map (·.2)) (hl : ∀ x ∈ D, x.2.length ≤ 65536) (hn : D.length ≤ 3000) (hs : St w0 M (ha ++ (hd ++ (hb ++ (he ++ r)))) w) {K : Value → World → Prop}
    (k : ∀ w', St w0 M r w' → K (.bool true) w') : F21 va vb w K := by
  unfold F21
  have hlen : D.length = E.length := by have := congrArg List.length heq; simpa using this
  have hva : lenS va = some (.int .i64 D.length) := by have := hall.len; simpa using this
  -- the first loop: all as told
  refine pLoop_up (I := fun i vs w' => vs = [.int .i64 (i : Nat)] ∧ St w0 M (ha ++ (hd ++ (hb ++ (he ++ r)))) w') D.length 0 (Nat.zero_le _) ⟨rfl, hs⟩ ?_
  clear hs
  rintro i vs w1 hi ⟨rfl, hs1⟩ go hgo
  try simp (disch := omega) only [pV_some, pE_some, pU_some, st_add, st_sub, st_mul, st_quo, st_rem, st_eql, st_neq, st_lss, st_leq, st_gtr, st_geq, st_seq, st_sneq, st_beq, st_bneq, st_not, st_neg, st_lenS, st_capS, st_lenT, st_fldA, st_conv, st_pick, st_ext0, st_ext1, st_ext2, st_ext3, st_nilS, st_nilP, st_nilF, st_nilE, st_nilN, st_none, st_some, st_true, st_false, nilC, add_lit, Nat.zero_add, Nat.add_zero, nth0, nth1, nth2, nth3, nth4, nth5, nth6, List.getElem?_cons_succ, List.getElem?_cons_zero, cond_true, cond_false, pSC_orp, pSC_andp, wrap_i64, Bool.not_true, Bool.not_false, hva]
  refine pIf_of (fun hlt => ?_) (fun hlt => ?_)
  · have hlt : i < D.length := by simpa using hlt
    refine pDraw_st hs1 (fun w2 hs2 _ => ?_)
    have hx := List.getElem?_eq_getElem hlt
    have hy := List.getElem?_eq_getElem (l := E) (i := i) (by omega)
    obtain ⟨a1, i1, c1⟩ := (OwnS.reads hall hs2).at1 (i := i) (u := D[i].1) (by rw [List.getElem?_map, hx]; rfl) (x := i) rfl
    obtain ⟨a2, i2, c2⟩ := (OwnS.reads hall2 (h := ha ++ (hd ++ (he ++ r))) (hs2.re (fun _ => by simp only [cnt_nil, cnt_cons, cnt_append]; omega))).at1 (i := i) (u := (E[i]'(by omega)).1) (by rw [List.getElem?_map, hy]; rfl) (x := i) rfl
    try simp (disch := omega) only [pV_some, pE_some, pU_some, st_add, st_sub, st_mul, st_quo, st_rem, st_eql, st_neq, st_lss, st_leq, st_gtr, st_geq, st_seq, st_sneq, st_beq, st_bneq, st_not, st_neg, st_lenS, st_capS, st_lenT, st_fldA, st_conv, st_pick, st_ext0, st_ext1, st_ext2, st_ext3, st_nilS, st_nilP, st_nilF, st_nilE, st_nilN, st_none, st_some, st_true, st_false, nilC, add_lit, Nat.zero_add, Nat.add_zero, nth0, nth1, nth2, nth3, nth4, nth5, nth6, List.getElem?_cons_succ, List.getElem?_cons_zero, cond_true, cond_false, pSC_orp, pSC_andp, wrap_i64, Bool.not_true, Bool.not_false, i1, i2, ld1r c1, ld1r c2]
    have hxl := hl _ (List.getElem_mem hlt)
    refine F13_pc (sameF_spec (R1.all hD (r := ha ++ (hb ++ (he ++ r))) (hs2.re (fun _ => by simp only [cnt_nil, cnt_cons, cnt_append]; omega)) hx) (R1.all hE (r := ha ++ (hb ++ (hd ++ r))) (hs2.re (fun _ => by simp only [cnt_nil, cnt_cons, cnt_append]; omega)) hy) (by omega) (fun w3 hs3 => ?_))
    have hsame : D[i].2 = (E[i]'(by omega)).2 := by
      have h1 : (D.map (·.2))[i]? = some D[i].2 := by rw [List.getElem?_map, hx]; rfl
      rw [heq, List.getElem?_map, hy] at h1
      exact (Option.some.inj h1).symm
    try simp (disch := omega) only [pV_some, pE_some, pU_some, st_add, st_sub, st_mul, st_quo, st_rem, st_eql, st_neq, st_lss, st_leq, st_gtr, st_geq, st_seq, st_sneq, st_beq, st_bneq, st_not, st_neg, st_lenS, st_capS, st_lenT, st_fldA, st_conv, st_pick, st_ext0, st_ext1, st_ext2, st_ext3, st_nilS, st_nilP, st_nilF, st_nilE, st_nilN, st_none, st_some, st_true, st_false, nilC, add_lit, Nat.zero_add, Nat.add_zero, nth0, nth1, nth2, nth3, nth4, nth5, nth6, List.getElem?_cons_succ, List.getElem?_cons_zero, cond_true, cond_false, pSC_orp, pSC_andp, wrap_i64, Bool.not_true, Bool.not_false, hsame, eq_self, decide_true]
    exact hgo _ _ hlt ⟨by simp, hs2.call hs3⟩
  clear hgo hlt hi
  -- the second: all are written
  have hs1 : St w0 M (ha ++ (hd ++ r)) w1 := hs1.re (fun _ => by simp only [cnt_nil, cnt_cons, cnt_append]; omega)
  refine pLoop_up (I := fun i vs w' => ∃ hd', vs = [.int .i64 (i : Nat)] ∧ OwnAll R1 (mk i D) hd' ∧ St w0 M (ha ++ (hd' ++ r)) w') D.length 0 (Nat.zero_le _) ⟨hd, rfl, by rw [mk_zero]; exact hD, hs1⟩ ?_
  clear hs1 hD
  rintro i2 vs w2 hi ⟨hd2, rfl, hD2, hs2⟩ go2 hgo2
  try simp (disch := omega) only [pV_some, pE_some, pU_some, st_add, st_sub, st_mul, st_quo, st_rem, st_eql, st_neq, st_lss, st_leq, st_gtr, st_geq, st_seq, st_sneq, st_beq, st_bneq, st_not, st_neg, st_lenS, st_capS, st_lenT, st_fldA, st_conv, st_pick, st_ext0, st_ext1, st_ext2, st_ext3, st_nilS, st_nilP, st_nilF, st_nilE, st_nilN, st_none, st_some, st_true, st_false, nilC, add_lit, Nat.zero_add, Nat.add_zero, nth0, nth1, nth2, nth3, nth4, nth5, nth6, List.getElem?_cons_succ, List.getElem?_cons_zero, cond_true, cond_false, pSC_orp, pSC_andp, wrap_i64, Bool.not_true, Bool.not_false, hva]
  refine pIf_of (fun hlt => ?_) (fun hlt => ?_)
  · have hlt : i2 < D.length := by simpa using hlt
    have hx := List.getElem?_eq_getElem hlt
    have hxl := hl _ (List.getElem_mem hlt)
    have hx' : (mk i2 D)[i2]? = some D[i2] := by rw [mk_get, hx]; simp
    obtain ⟨kx, g, hr, hcnt, hput⟩ := hD2.focus hx'
    have hs3 : St w0 M (ha ++ (kx ++ (g ++ r))) w2 := hs2.re (fun a => by simp only [cnt_append, hcnt]; omega)
    have hr : OwnF D[i2].1 D[i2].2 kx := hr
    refine pLoop_up (I := fun k vs w' => ∃ hk, vs = [.int .i64 (k : Nat)] ∧ OwnF D[i2].1 (List.replicate k (-7, (i2 : Int)) ++ D[i2].2.drop k) hk ∧ St w0 M (ha ++ (hk ++ (g ++ r))) w') D[i2].2.length 0 (Nat.zero_le _) ⟨kx, rfl, by simpa using hr, hs3⟩ ?_
    clear hs2 hs3
    rintro k3 vs w3 hk3 ⟨hk, rfl, ho3, hs3⟩ go3 hgo3
    obtain ⟨a1, i1, c1⟩ := (OwnS.reads hall hs3).at1 (i := i2) (u := D[i2].1) (by rw [List.getElem?_map, hx]; rfl) (x := i2) rfl
    have hln : (List.replicate k3 ((-7 : Int), (i2 : Int)) ++ D[i2].2.drop k3).length = D[i2].2.length := by simp; omega
    have hlx := ho3.len
    rw [hln] at hlx
    try simp (disch := omega) only [pV_some, pE_some, pU_some, st_add, st_sub, st_mul, st_quo, st_rem, st_eql, st_neq, st_lss, st_leq, st_gtr, st_geq, st_seq, st_sneq, st_beq, st_bneq, st_not, st_neg, st_lenS, st_capS, st_lenT, st_fldA, st_conv, st_pick, st_ext0, st_ext1, st_ext2, st_ext3, st_nilS, st_nilP, st_nilF, st_nilE, st_nilN, st_none, st_some, st_true, st_false, nilC, add_lit, Nat.zero_add, Nat.add_zero, nth0, nth1, nth2, nth3, nth4, nth5, nth6, List.getElem?_cons_succ, List.getElem?_cons_zero, cond_true, cond_false, pSC_orp, pSC_andp, wrap_i64, Bool.not_true, Bool.not_false, i1, ld1r c1, hlx]
    refine pIf_of (fun hlt3 => ?_) (fun hlt3 => ?_)
    · have hlt3 : k3 < D[i2].2.length := by simpa using hlt3
      refine pV_eq (show _ = some (frV (-7, (i2 : Int))) from rfl) ?_
      obtain ⟨ad, j1, hset⟩ := own_setF ho3 (r := ha ++ (g ++ r)) (hs3.re (fun _ => by simp only [cnt_nil, cnt_cons, cnt_append]; omega)) (i := k3) (by omega) (x := k3) rfl
      try simp (disch := omega) only [pV_some, pE_some, pU_some, st_add, st_sub, st_mul, st_quo, st_rem, st_eql, st_neq, st_lss, st_leq, st_gtr, st_geq, st_seq, st_sneq, st_beq, st_bneq, st_not, st_neg, st_lenS, st_capS, st_lenT, st_fldA, st_conv, st_pick, st_ext0, st_ext1, st_ext2, st_ext3, st_nilS, st_nilP, st_nilF, st_nilE, st_nilN, st_none, st_some, st_true, st_false, nilC, add_lit, Nat.zero_add, Nat.add_zero, nth0, nth1, nth2, nth3, nth4, nth5, nth6, List.getElem?_cons_succ, List.getElem?_cons_zero, cond_true, cond_false, pSC_orp, pSC_andp, wrap_i64, Bool.not_true, Bool.not_false, j1]
      refine hset (-7, (i2 : Int)) _ (fun kk' w4 ho4 hs4 => ?_)
      rw [rep_set _ hlt3] at ho4
      try simp (disch := omega) only [pV_some, pE_some, pU_some, st_add, st_sub, st_mul, st_quo, st_rem, st_eql, st_neq, st_lss, st_leq, st_gtr, st_geq, st_seq, st_sneq, st_beq, st_bneq, st_not, st_neg, st_lenS, st_capS, st_lenT, st_fldA, st_conv, st_pick, st_ext0, st_ext1, st_ext2, st_ext3, st_nilS, st_nilP, st_nilF, st_nilE, st_nilN, st_none, st_some, st_true, st_false, nilC, add_lit, Nat.zero_add, Nat.add_zero, nth0, nth1, nth2, nth3, nth4, nth5, nth6, List.getElem?_cons_succ, List.getElem?_cons_zero, cond_true, cond_false, pSC_orp, pSC_andp, wrap_i64, Bool.not_true, Bool.not_false]
      exact hgo3 _ _ hlt3 ⟨kk', by simp, ho4, hs4.re (fun _ => by simp only [cnt_nil, cnt_cons, cnt_append]; omega)⟩
    · obtain rfl : k3 = D[i2].2.length := by simp at hlt3; omega
      rw [List.drop_length, List.append_nil] at ho3
      have := hput (D[i2].1, List.replicate D[i2].2.length (-7, (i2 : Int))) hk ho3
      rw [mk_set hx] at this
      exact hgo2 _ _ hlt ⟨hk ++ g, by simp, this, hs3.re (fun _ => by simp only [cnt_nil, cnt_cons, cnt_append]; omega)⟩
  obtain rfl : i2 = D.length := by simp at hlt; omega
  clear hgo2 hlt hi
  -- the third: all are gone on with
  have hml := mk_len D.length D
  refine pLoop_up (I := fun i vs w' => ∃ (vl : Value) (hlg hh hr : HP) (G : List (VL × Value)), vs = [vl, .int .i64 (i : Nat)] ∧ OwnLL vl (G.map (·.2)) hlg ∧ OwnAll R2 G hh ∧ OwnAll R1 ((mk D.length D).drop i) hr ∧ G.map (·.1) = (mk D.length D).take i ∧ St w0 M (ha ++ (hlg ++ (hh ++ (hr ++ r)))) w') D.length 0 (Nat.zero_le _) ⟨_, [], [], hd2, [], rfl, ownS_nil _ _, .none, hD2, rfl, hs2⟩ ?_
  clear hs2 hD2
  rintro i3 vs w3 hi ⟨vl, hlg, hh, hr, G, rfl, hol, hG, hD3, hGf, hs3⟩ go4 hgo4
  have hGl : G.length = i3 := by have := congrArg List.length hGf; simp [hml] at this; omega
  try simp (disch := omega) only [pV_some, pE_some, pU_some, st_add, st_sub, st_mul, st_quo, st_rem, st_eql, st_neq, st_lss, st_leq, st_gtr, st_geq, st_seq, st_sneq, st_beq, st_bneq, st_not, st_neg, st_lenS, st_capS, st_lenT, st_fldA, st_conv, st_pick, st_ext0, st_ext1, st_ext2, st_ext3, st_nilS, st_nilP, st_nilF, st_nilE, st_nilN, st_none, st_some, st_true, st_false, nilC, add_lit, Nat.zero_add, Nat.add_zero, nth0, nth1, nth2, nth3, nth4, nth5, nth6, List.getElem?_cons_succ, List.getElem?_cons_zero, cond_true, cond_false, pSC_orp, pSC_andp, wrap_i64, Bool.not_true, Bool.not_false, hva]
  refine pIf_of (fun hlt => ?_) (fun hlt => ?_)
  · have hlt : i3 < D.length := by simpa using hlt
    have hx := List.getElem?_eq_getElem hlt
    have hxl := hl _ (List.getElem_mem hlt)
    obtain ⟨a1, i1, c1⟩ := (OwnS.reads hall hs3).at1 (i := i3) (u := D[i3].1) (by rw [List.getElem?_map, hx]; rfl) (x := i3) rfl
    try simp (disch := omega) only [pV_some, pE_some, pU_some, st_add, st_sub, st_mul, st_quo, st_rem, st_eql, st_neq, st_lss, st_leq, st_gtr, st_geq, st_seq, st_sneq, st_beq, st_bneq, st_not, st_neg, st_lenS, st_capS, st_lenT, st_fldA, st_conv, st_pick, st_ext0, st_ext1, st_ext2, st_ext3, st_nilS, st_nilP, st_nilF, st_nilE, st_nilN, st_none, st_some, st_true, st_false, nilC, add_lit, Nat.zero_add, Nat.add_zero, nth0, nth1, nth2, nth3, nth4, nth5, nth6, List.getElem?_cons_succ, List.getElem?_cons_zero, cond_true, cond_false, pSC_orp, pSC_andp, wrap_i64, Bool.not_true, Bool.not_false, i1, ld1r c1]
    have hx' : (mk D.length D)[i3]? = some (D[i3].1, List.replicate D[i3].2.length (-7, (i3 : Int))) := by rw [mk_get, hx]; simp [hlt]
    rw [drop_head hx'] at hD3
    cases hD3 with
    | cons hr1 hrest hcnt =>
      rename_i kx g
      have hr1 : OwnF D[i3].1 (List.replicate D[i3].2.length (-7, (i3 : Int))) kx := hr1
      have hs4 : St w0 M (kx ++ (ha ++ (hlg ++ (hh ++ (g ++ r))))) w3 := hs3.re (fun a => by simp only [cnt_append, hcnt]; omega)
      refine F33_pc (grown_spec hr1 hs4 (by simpa using hxl) (n := 70) (by omega) (fun v5 hp5 hq5 w5 ho5 hu5 hs5 => ?_))
      try simp (disch := omega) only [pV_some, pE_some, pU_some, st_add, st_sub, st_mul, st_quo, st_rem, st_eql, st_neq, st_lss, st_leq, st_gtr, st_geq, st_seq, st_sneq, st_beq, st_bneq, st_not, st_neg, st_lenS, st_capS, st_lenT, st_fldA, st_conv, st_pick, st_ext0, st_ext1, st_ext2, st_ext3, st_nilS, st_nilP, st_nilF, st_nilE, st_nilN, st_none, st_some, st_true, st_false, nilC, add_lit, Nat.zero_add, Nat.add_zero, nth0, nth1, nth2, nth3, nth4, nth5, nth6, List.getElem?_cons_succ, List.getElem?_cons_zero, cond_true, cond_false, pSC_orp, pSC_andp, wrap_i64, Bool.not_true, Bool.not_false]
      refine app_sl hol (h := hp5 ++ (hq5 ++ (ha ++ (hh ++ (g ++ r))))) (hs5.re (fun _ => by simp only [cnt_nil, cnt_cons, cnt_append]; omega)) (by obtain ⟨a, c, h, _⟩ := ho5.slice; exact ⟨a, _, c, h⟩) (by simp; omega) (fun v6 hp6 w6 ho6 hs6 => ?_)
      try simp (disch := omega) only [pV_some, pE_some, pU_some, st_add, st_sub, st_mul, st_quo, st_rem, st_eql, st_neq, st_lss, st_leq, st_gtr, st_geq, st_seq, st_sneq, st_beq, st_bneq, st_not, st_neg, st_lenS, st_capS, st_lenT, st_fldA, st_conv, st_pick, st_ext0, st_ext1, st_ext2, st_ext3, st_nilS, st_nilP, st_nilF, st_nilE, st_nilN, st_none, st_some, st_true, st_false, nilC, add_lit, Nat.zero_add, Nat.add_zero, nth0, nth1, nth2, nth3, nth4, nth5, nth6, List.getElem?_cons_succ, List.getElem?_cons_zero, cond_true, cond_false, pSC_orp, pSC_andp, wrap_i64, Bool.not_true, Bool.not_false]
      refine hgo4 _ _ hlt ⟨v6, hp6, (hp5 ++ hq5) ++ hh, g, G ++ [((D[i3].1, List.replicate D[i3].2.length (-7, (i3 : Int))), v5)], by simp, ?_, hG.snoc ⟨hu5, (sup_own ho5).sub (fun p h => List.mem_append_left _ h)⟩, hrest, ?_, hs6.re (fun _ => by simp only [cnt_nil, cnt_cons, cnt_append]; omega)⟩
      · rw [List.map_append]; exact ho6
      · rw [List.map_append, hGf, take_snoc hx']; rfl
  obtain rfl : i3 = D.length := by simp at hlt; omega
  clear hgo4 hlt hi hD3
  have hGf : G.map (·.1) = mk D.length D := by rw [hGf, List.take_of_length_le (by omega)]
  have hs3 : St w0 M (hh ++ (ha ++ (hlg ++ r))) w3 := hs3.re (fun _ => by simp only [cnt_nil, cnt_cons, cnt_append]; omega)
  -- the fourth: all as written
  refine pLoop_up (I := fun i vs w' => vs = [.int .i64 (i : Nat)] ∧ St w0 M (hh ++ (ha ++ (hlg ++ r))) w') D.length 0 (Nat.zero_le _) ⟨rfl, hs3⟩ ?_
  clear hs3
  rintro i4 vs w4 hi ⟨rfl, hs4⟩ go5 hgo5
  try simp (disch := omega) only [pV_some, pE_some, pU_some, st_add, st_sub, st_mul, st_quo, st_rem, st_eql, st_neq, st_lss, st_leq, st_gtr, st_geq, st_seq, st_sneq, st_beq, st_bneq, st_not, st_neg, st_lenS, st_capS, st_lenT, st_fldA, st_conv, st_pick, st_ext0, st_ext1, st_ext2, st_ext3, st_nilS, st_nilP, st_nilF, st_nilE, st_nilN, st_none, st_some, st_true, st_false, nilC, add_lit, Nat.zero_add, Nat.add_zero, nth0, nth1, nth2, nth3, nth4, nth5, nth6, List.getElem?_cons_succ, List.getElem?_cons_zero, cond_true, cond_false, pSC_orp, pSC_andp, wrap_i64, Bool.not_true, Bool.not_false, hva]
  refine pIf_of (fun hlt => ?_) (fun hlt => ?_)
  · have hlt : i4 < D.length := by simpa using hlt
    have hx := List.getElem?_eq_getElem hlt
    have hxl := hl _ (List.getElem_mem hlt)
    have hx' : (mk D.length D)[i4]? = some (D[i4].1, List.replicate D[i4].2.length (-7, (i4 : Int))) := by rw [mk_get, hx]; simp [hlt]
    have hg := List.getElem?_eq_getElem (l := G) (i := i4) (by omega)
    have hg1 : (G[i4]'(by omega)).1 = (D[i4].1, List.replicate D[i4].2.length (-7, (i4 : Int))) := by
      rw [← hGf, List.getElem?_map, hg] at hx'
      exact Option.some.inj hx'
    generalize hyd : (G[i4]'(by omega)) = y at hg hg1
    obtain ⟨y1, y2⟩ := y
    have hg1 : y1 = (D[i4].1, List.replicate D[i4].2.length (-7, (i4 : Int))) := hg1
    subst hg1
    have reads : ∀ w', St w0 M (hh ++ (ha ++ (hlg ++ r))) w' → RdF w' D[i4].1 (List.replicate D[i4].2.length (-7, (i4 : Int))) ∧ RdF w' y2 (List.replicate D[i4].2.length (-7, (i4 : Int)) ++ List.replicate 70 (0, 0)) ∧ (∃ ad, idxV 1 va (.int .i64 i4) = some (.pointer (some ad)) ∧ w'.cell? ad = some D[i4].1) ∧ (∃ ad, idxV 1 vl (.int .i64 i4) = some (.pointer (some ad)) ∧ w'.cell? ad = some y2) := by
      intro w' hs'
      obtain ⟨kk, g, h1, h2, _⟩ := hG.focus hg
      have hsk : St w0 M (kk ++ (g ++ (ha ++ (hlg ++ r)))) w' := hs'.re (fun a => by simp only [cnt_append, h2]; omega)
      exact ⟨h1.1.reads hsk, h1.2.reads hsk, (OwnS.reads hall (h := hh ++ (hlg ++ r)) (hs'.re (fun _ => by simp only [cnt_nil, cnt_cons, cnt_append]; omega))).at1 (i := i4) (by rw [List.getElem?_map, hx]; rfl) rfl, (OwnS.reads hol (h := hh ++ (ha ++ r)) (hs'.re (fun _ => by simp only [cnt_nil, cnt_cons, cnt_append]; omega))).at1 (i := i4) (by rw [List.getElem?_map, hg]; rfl) rfl⟩
    refine pLoop_up (I := fun k vs w' => vs = [.int .i64 (k : Nat)] ∧ St w0 M (hh ++ (ha ++ (hlg ++ r))) w') (D[i4].2.length + 70) 0 (Nat.zero_le _) ⟨rfl, hs4⟩ ?_
    clear hs4
    rintro k5 vs w5 hk5 ⟨rfl, hs5⟩ go6 hgo6
    obtain ⟨r1, r2, ⟨a1, i1, c1⟩, ⟨a2, i2, c2⟩⟩ := reads w5 hs5
    have l1 := r1.len
    have l2 := r2.len
    simp only [List.length_append, List.length_replicate] at l1 l2
    try simp (disch := omega) only [pV_some, pE_some, pU_some, st_add, st_sub, st_mul, st_quo, st_rem, st_eql, st_neq, st_lss, st_leq, st_gtr, st_geq, st_seq, st_sneq, st_beq, st_bneq, st_not, st_neg, st_lenS, st_capS, st_lenT, st_fldA, st_conv, st_pick, st_ext0, st_ext1, st_ext2, st_ext3, st_nilS, st_nilP, st_nilF, st_nilE, st_nilN, st_none, st_some, st_true, st_false, nilC, add_lit, Nat.zero_add, Nat.add_zero, nth0, nth1, nth2, nth3, nth4, nth5, nth6, List.getElem?_cons_succ, List.getElem?_cons_zero, cond_true, cond_false, pSC_orp, pSC_andp, wrap_i64, Bool.not_true, Bool.not_false, i1, i2, ld1r c1, ld1r c2, l1, l2]
    refine pIf_of (fun hlt5 => ?_) (fun hlt5 => ?_)
    · have hlt5 : k5 < D[i4].2.length + 70 := by simp only [decide_eq_true_eq] at hlt5; omega
      refine pV_eq (show _ = some (frV (0, 0)) from rfl) ?_
      refine pE_boxc hs5 (frow (0, 0)) rfl (fun b w6 hs6 ht6 _ => ?_)
      refine pU_st (o := 0) (sz := 2) (v := frV (0, 0)) hs6 (frow (0, 0)) rfl (Nat.le_refl _) (by intro u hu; simp [Value.cells] at hu; subst hu; rfl) rfl (fun w7 hs7 _ => ?_)
      obtain ⟨_, _, ⟨a1', i1', c71⟩, ⟨a2', i2', c72⟩⟩ := reads w7 (hs7.re (fun _ => by simp only [cnt_nil, cnt_cons, cnt_append]; omega))
      obtain rfl : a1' = a1 := by rw [i1] at i1'; cases i1'; rfl
      obtain rfl : a2' = a2 := by rw [i2] at i2'; cases i2'; rfl
      have hz : (List.replicate D[i4].2.length ((-7 : Int), (i4 : Int)) ++ List.replicate 70 (0, 0))[k5]? = some (if k5 < D[i4].2.length then (-7, (i4 : Int)) else (0, 0)) := by
        rw [List.getElem?_append, List.length_replicate]
        split
        · rw [List.getElem?_replicate, if_pos (by assumption)]
        · rw [List.getElem?_replicate, if_pos (by omega)]
      refine ⟨fun vs w => vs = [] ∧ St w0 M ((b, ⟨frow (if k5 < D[i4].2.length then (-7, (i4 : Int)) else (0, 0)), (.t 34)⟩) :: (hh ++ (ha ++ (hlg ++ r)))) w, ?_, ?_⟩
      · try simp (disch := omega) only [pV_some, pE_some, pU_some, st_add, st_sub, st_mul, st_quo, st_rem, st_eql, st_neq, st_lss, st_leq, st_gtr, st_geq, st_seq, st_sneq, st_beq, st_bneq, st_not, st_neg, st_lenS, st_capS, st_lenT, st_fldA, st_conv, st_pick, st_ext0, st_ext1, st_ext2, st_ext3, st_nilS, st_nilP, st_nilF, st_nilE, st_nilN, st_none, st_some, st_true, st_false, nilC, add_lit, Nat.zero_add, Nat.add_zero, nth0, nth1, nth2, nth3, nth4, nth5, nth6, List.getElem?_cons_succ, List.getElem?_cons_zero, cond_true, cond_false, pSC_orp, pSC_andp, wrap_i64, Bool.not_true, Bool.not_false, ld1r c71, l1]
        refine pIf_of (fun h => ?_) (fun h => ?_)
        · have h : k5 < D[i4].2.length := by simpa using h
          refine pV_eq (show _ = some (frV (-7, (i4 : Int))) from rfl) ?_
          refine pU_st (o := 0) (sz := 2) (v := frV (-7, (i4 : Int))) hs7 (frow (-7, (i4 : Int))) rfl (Nat.le_refl _) (by intro u hu; simp [Value.cells] at hu; rcases hu with rfl | rfl <;> rfl) rfl (fun w8 hs8 _ => ?_)
          exact ⟨trivial, by rw [if_pos h]; exact hs8⟩
        · have h : ¬ k5 < D[i4].2.length := by simpa using h
          exact ⟨trivial, by rw [if_neg h]; exact hs7⟩
      rintro vs w8 ⟨rfl, hs8⟩
      refine pDraw_st hs8 (fun w9 hs9 _ => ?_)
      obtain ⟨r91, r92, ⟨a1'', i1'', c91⟩, ⟨a2'', i2'', c92⟩⟩ := reads w9 (hs9.re (fun _ => by simp only [cnt_nil, cnt_cons, cnt_append]; omega))
      obtain rfl : a1'' = a1' := by rw [i1] at i1''; cases i1''; rfl
      obtain rfl : a2'' = a2' := by rw [i2] at i2''; cases i2''; rfl
      obtain ⟨ad, j1, d1⟩ := RdC.fat r92 hz (x := k5) rfl
      have hw : ldV true 2 w9 (.pointer (some ⟨b, 0, none⟩)) = some (frV (if k5 < D[i4].2.length then (-7, (i4 : Int)) else (0, 0))) := hs9.top.ldw rfl
      try simp (disch := omega) only [pV_some, pE_some, pU_some, st_add, st_sub, st_mul, st_quo, st_rem, st_eql, st_neq, st_lss, st_leq, st_gtr, st_geq, st_seq, st_sneq, st_beq, st_bneq, st_not, st_neg, st_lenS, st_capS, st_lenT, st_fldA, st_conv, st_pick, st_ext0, st_ext1, st_ext2, st_ext3, st_nilS, st_nilP, st_nilF, st_nilE, st_nilN, st_none, st_some, st_true, st_false, nilC, add_lit, Nat.zero_add, Nat.add_zero, nth0, nth1, nth2, nth3, nth4, nth5, nth6, List.getElem?_cons_succ, List.getElem?_cons_zero, cond_true, cond_false, pSC_orp, pSC_andp, wrap_i64, Bool.not_true, Bool.not_false, ld1r c91, ld1r c92, l1, j1, fr_ld d1, hw, eq_fir, eq_self, decide_true]
      refine pSC_or_f rfl ?_
      have next : ∀ w', St w0 M (hh ++ (ha ++ (hlg ++ r))) w' → go6 [.int .i64 ((k5 : Int) + 1)] w' := fun w' hs' => hgo6 _ _ hlt5 ⟨by simp, hs'⟩
      by_cases h : k5 < D[i4].2.length
      · refine pSC_and_t (by simpa using h) ?_
        have hz1 : (List.replicate D[i4].2.length ((-7 : Int), (i4 : Int)))[k5]? = some (-7, (i4 : Int)) := by rw [List.getElem?_replicate, if_pos h]
        obtain ⟨ad2, j2, d2⟩ := RdC.fat r91 hz1 (x := k5) rfl
        rw [if_pos h] at hw ⊢
        try simp (disch := omega) only [pV_some, pE_some, pU_some, st_add, st_sub, st_mul, st_quo, st_rem, st_eql, st_neq, st_lss, st_leq, st_gtr, st_geq, st_seq, st_sneq, st_beq, st_bneq, st_not, st_neg, st_lenS, st_capS, st_lenT, st_fldA, st_conv, st_pick, st_ext0, st_ext1, st_ext2, st_ext3, st_nilS, st_nilP, st_nilF, st_nilE, st_nilN, st_none, st_some, st_true, st_false, nilC, add_lit, Nat.zero_add, Nat.add_zero, nth0, nth1, nth2, nth3, nth4, nth5, nth6, List.getElem?_cons_succ, List.getElem?_cons_zero, cond_true, cond_false, pSC_orp, pSC_andp, wrap_i64, Bool.not_true, Bool.not_false, ld1r c91, j2, fr_ld d2, hw, eq_fir, eq_self, decide_true]
        exact next _ (hs9.re (fun _ => by simp only [cnt_nil, cnt_cons, cnt_append]; omega))
      · refine pSC_and_f (by simpa using h) ?_
        try simp (disch := omega) only [pV_some, pE_some, pU_some, st_add, st_sub, st_mul, st_quo, st_rem, st_eql, st_neq, st_lss, st_leq, st_gtr, st_geq, st_seq, st_sneq, st_beq, st_bneq, st_not, st_neg, st_lenS, st_capS, st_lenT, st_fldA, st_conv, st_pick, st_ext0, st_ext1, st_ext2, st_ext3, st_nilS, st_nilP, st_nilF, st_nilE, st_nilN, st_none, st_some, st_true, st_false, nilC, add_lit, Nat.zero_add, Nat.add_zero, nth0, nth1, nth2, nth3, nth4, nth5, nth6, List.getElem?_cons_succ, List.getElem?_cons_zero, cond_true, cond_false, pSC_orp, pSC_andp, wrap_i64, Bool.not_true, Bool.not_false]
        exact next _ (hs9.re (fun _ => by simp only [cnt_nil, cnt_cons, cnt_append]; omega))
    · exact hgo5 _ _ hlt ⟨by simp, hs5⟩
  · exact k w4 (hs4.re (fun _ => by simp only [cnt_nil, cnt_cons, cnt_append]; omega))
end Go.Proofs.Ytbbjljhbiaeadaa
