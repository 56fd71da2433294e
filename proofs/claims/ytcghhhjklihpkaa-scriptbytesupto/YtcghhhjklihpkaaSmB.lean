/- script: what 'own', 'with' do to an input. -/
import Derived.Test.YtcghhhjklihpkaaSmA
set_option linter.unusedSimpArgs false
set_option linter.unusedVariables false
namespace Go.Proofs.Ytcghhhjklihpkaa
open Go.Bk Go.RowKit

abbrev inV (p : In × Value) : Value := .agg #[.int .i64 p.1.t, .int .i64 p.1.k, .int .i64 p.1.g, p.2]
abbrev OwnI (s : Value) (d : List Int) (hp : HP) : Prop := OwnS 2 1 s d.length (ints d) hp
theorem row_one {p : In × Value} (h : oneC p.2 = true) : ∀ u ∈ (inV p).cells.toList, oneC u = true := by
  intro u hu
  simp only [Value.cells, List.mem_cons, List.not_mem_nil, or_false] at hu
  rcases hu with rfl | rfl | rfl | rfl
  · rfl
  · rfl
  · rfl
  · exact h

/-- script.own: the input with words of its own. -/
theorem own_spec {w : World} {p : In × Value} (hd : RdI w p.2 p.1.d) (hb : p.1.d.length ≤ 2147483647) {K : Value → World → Prop}
    (k : ∀ s' hp w', OwnI s' p.1.d hp → St w no hp w' → K (inV (p.1, s')) w') : F18 (inV p) w K := by
  unfold F18
  refine pE_boxc (St.nil w no) [.int .i64 p.1.t, .int .i64 p.1.k, .int .i64 p.1.g, p.2] rfl (fun b1 w1 hs1 ht1 _ => ?_)
  refine pE_boxc hs1 [.int .i64 0, .int .i64 0, .int .i64 0, .slice none 0 0] rfl (fun b2 w2 hs2 ht2 _ => ?_)
  have hB := hs2.top2
  simp (disch := omega) only [pV_some, pE_some, pU_some, st_add, st_sub, st_mul, st_quo, st_rem, st_eql, st_neq, st_lss, st_leq, st_gtr, st_geq, st_seq, st_sneq, st_beq, st_bneq, st_not, st_neg, st_lenS, st_capS, st_lenT, st_fldA, st_conv, st_pick, st_ext0, st_ext1, st_ext2, st_ext3, st_nilS, st_nilP, st_nilF, st_nilE, st_nilN, st_none, st_some, st_true, st_false, nilC, add_lit, Nat.zero_add, Nat.add_zero, nth0, nth1, nth2, nth3, nth4, nth5, nth6, List.getElem?_cons_succ, List.getElem?_cons_zero, cond_true, cond_false, pSC_orp, pSC_andp, wrap_i64, Bool.not_true, Bool.not_false, hB.ld]
  refine F34_pc (clone_spec ((hd.gr ht1).gr ht2) hb (fun s' hp w3 ho hs3 => ?_))
  have hs4 := hs2.call hs3
  have hs5 : St w no ((b1, ⟨[.int .i64 p.1.t, .int .i64 p.1.k, .int .i64 p.1.g, p.2], 42⟩) :: (b2, ⟨[.int .i64 0, .int .i64 0, .int .i64 0, .slice none 0 0], 42⟩) :: hp) w3 := hs4.re (fun _ => by simp only [cnt_nil, cnt_cons, cnt_append]; omega)
  refine pU_st1 hs5 ho.one [.int .i64 p.1.t, .int .i64 p.1.k, .int .i64 p.1.g, s'] (by simp) rfl (fun w6 hs6 _ => ?_)
  simp (disch := omega) only [pV_some, pE_some, pU_some, st_add, st_sub, st_mul, st_quo, st_rem, st_eql, st_neq, st_lss, st_leq, st_gtr, st_geq, st_seq, st_sneq, st_beq, st_bneq, st_not, st_neg, st_lenS, st_capS, st_lenT, st_fldA, st_conv, st_pick, st_ext0, st_ext1, st_ext2, st_ext3, st_nilS, st_nilP, st_nilF, st_nilE, st_nilN, st_none, st_some, st_true, st_false, nilC, add_lit, Nat.zero_add, Nat.add_zero, nth0, nth1, nth2, nth3, nth4, nth5, nth6, List.getElem?_cons_succ, List.getElem?_cons_zero, cond_true, cond_false, pSC_orp, pSC_andp, wrap_i64, Bool.not_true, Bool.not_false, hs6.top.ldw (sz := 4) rfl]
  have hs7 : St w no ((b2, ⟨[.int .i64 0, .int .i64 0, .int .i64 0, .slice none 0 0], 42⟩) :: (b1, ⟨[.int .i64 p.1.t, .int .i64 p.1.k, .int .i64 p.1.g, s'], 42⟩) :: hp) w6 := hs6.re (fun _ => by simp only [cnt_nil, cnt_cons, cnt_append]; omega)
  refine pU_st hs7 [.int .i64 p.1.t, .int .i64 p.1.k, .int .i64 p.1.g, s'] rfl (by simp [Value.cells]) (row_one (p := (p.1, s')) ho.one) rfl (fun w8 hs8 _ => ?_)
  simp (disch := omega) only [pV_some, pE_some, pU_some, st_add, st_sub, st_mul, st_quo, st_rem, st_eql, st_neq, st_lss, st_leq, st_gtr, st_geq, st_seq, st_sneq, st_beq, st_bneq, st_not, st_neg, st_lenS, st_capS, st_lenT, st_fldA, st_conv, st_pick, st_ext0, st_ext1, st_ext2, st_ext3, st_nilS, st_nilP, st_nilF, st_nilE, st_nilN, st_none, st_some, st_true, st_false, nilC, add_lit, Nat.zero_add, Nat.add_zero, nth0, nth1, nth2, nth3, nth4, nth5, nth6, List.getElem?_cons_succ, List.getElem?_cons_zero, cond_true, cond_false, pSC_orp, pSC_andp, wrap_i64, Bool.not_true, Bool.not_false, hs8.top.ldw (sz := 4) rfl]
  exact k s' hp w8 ho (hs8.re (fun _ => by simp only [cnt_nil, cnt_cons, cnt_append]; omega))

/-- The words of a list's inputs. -/
def Inn (ps : List (In × Value)) (h : HP) : Prop := OwnAll (fun p k => OwnI p.2 p.1.d k) ps h
theorem Inn.nil : Inn [] [] := OwnAll.none
theorem Inn.snoc {ps : List (In × Value)} {h k : HP} {p : In × Value} (hi : Inn ps h) (ho : OwnI p.2 p.1.d k) : Inn (ps ++ [p]) (k ++ h) := OwnAll.snoc hi ho

/-- A list of inputs of one's own. -/
def OwnIns (v : Value) (ps : List (In × Value)) (hp : HP) : Prop := ∃ o h, OwnS 42 4 v ps.length (rows ps) o ∧ Inn ps h ∧ hp = o ++ h

theorem ownIns_nil : OwnIns (.slice none 0 0) [] [] := ⟨[], [], ownS_nil _ _, .nil, rfl⟩

theorem Inn.reads {w0 w : World} {M : Nat → Prop} {ps : List (In × Value)} {h r : HP} (hi : Inn ps h) (hs : St w0 M (h ++ r) w) : ∀ p ∈ ps, RdI w p.2 p.1.d :=
  OwnAll.reads (Q := fun p => RdI w p.2 p.1.d) hi hs (fun _ _ _ ho hs => OwnS.reads ho hs)
theorem Inn.mem {ps : List (In × Value)} {h : HP} (hi : Inn ps h) : ∀ p ∈ ps, ∃ k, OwnI p.2 p.1.d k := OwnAll.all hi
theorem Inn.one {ps : List (In × Value)} {h : HP} (hi : Inn ps h) : ∀ p ∈ ps, oneC p.2 = true := fun p hp => by
  obtain ⟨k, hk⟩ := hi.mem p hp; exact hk.one
theorem OwnIns.reads {w0 w : World} {M : Nat → Prop} {v : Value} {ps : List (In × Value)} {hp r : HP} (ho : OwnIns v ps hp) (hs : St w0 M (hp ++ r) w) : InsR w v ps := by
  obtain ⟨o, h, ho, hi, rfl⟩ := ho
  exact ⟨ho.reads (h := h ++ r) (hs.re (fun _ => by simp only [cnt_nil, cnt_cons, cnt_append]; omega)), hi.reads (r := o ++ r) (hs.re (fun _ => by simp only [cnt_nil, cnt_cons, cnt_append]; omega))⟩

theorem oneCell_row {p : In × Value} (h : oneC p.2 = true) : ∀ u ∈ row p, u.oneCell' = true := by
  intro u hu
  simp only [row, List.mem_cons, List.not_mem_nil, or_false] at hu
  rcases hu with rfl | rfl | rfl | rfl
  · rfl
  · rfl
  · rfl
  · cases h2 : p.2 <;> simp_all [oneC, Value.oneCell']

/-- One input more. -/
theorem more_spec {w0 w : World} {M : Nat → Prop} {v : Value} {ps : List (In × Value)} {p : In × Value} {o h : HP} (ho : OwnS 42 4 v ps.length (rows ps) o) (hs : St w0 M (o ++ h) w) (h1 : oneC p.2 = true) (hb : ps.length ≤ 1073741824) {ty : TypeId} {K : Value → World → Prop}
    (k : ∀ v' o' w', OwnS 42 4 v' (ps ++ [p]).length (rows (ps ++ [p])) o' → St w0 M (o' ++ h) w' → K v' w') :
    pE (mkE 42 4 [inV p] w) fun x w => pE (semE Try.prog (Builtin.append_ #[22, 22] ty #[v, x]) w) K := by
  refine pE_mkc hs (row p) rfl (by simp [Value.cells]) (fun b w1 hs1 ht1 _ => ?_)
  have hB := hs1.top
  refine append_own (h := (b, ⟨row p, 42⟩) :: h) ty_ins ho (hs1.re (fun _ => by simp only [cnt_nil, cnt_cons, cnt_append]; omega)) (xa := some ⟨b, 0, none⟩) (m := 1) (news := row p) rfl (by simp) rfl (fun ad h => by
    cases h
    exact hB.cellsAt 0) (oneCell_row h1) (by simp [maxLen]; omega) (by omega) (fun v' o' w' ho' hs' _ => ?_)
  rw [← rows_snoc] at ho'
  refine k v' o' w' (by simpa using ho') (hs'.re (fun _ => by simp only [cnt_nil, cnt_cons, cnt_append]; omega))

/-- bulkheadref21.with: a list of one's own, and an input more. -/
theorem with_spec {w0 w : World} {M : Nat → Prop} {v : Value} {ps : List (In × Value)} {p : In × Value} {hp h : HP} (ho : OwnIns v ps hp) (hs : St w0 M (hp ++ h) w) (hd : RdI w p.2 p.1.d) (hb : p.1.d.length ≤ 2147483647) (hl : ps.length ≤ 1073741824) {K : Value → World → Prop}
    (k : ∀ v' s' hp' w', OwnIns v' (ps ++ [(p.1, s')]) hp' → St w0 M (hp' ++ h) w' → K v' w') : F19 v (inV p) w K := by
  unfold F19
  obtain ⟨o, i, ho, hi, rfl⟩ := ho
  refine pE_boxc hs [.int .i64 p.1.t, .int .i64 p.1.k, .int .i64 p.1.g, p.2] rfl (fun b1 w1 hs1 ht1 _ => ?_)
  have hB := hs1.top
  simp (disch := omega) only [pV_some, pE_some, pU_some, st_add, st_sub, st_mul, st_quo, st_rem, st_eql, st_neq, st_lss, st_leq, st_gtr, st_geq, st_seq, st_sneq, st_beq, st_bneq, st_not, st_neg, st_lenS, st_capS, st_lenT, st_fldA, st_conv, st_pick, st_ext0, st_ext1, st_ext2, st_ext3, st_nilS, st_nilP, st_nilF, st_nilE, st_nilN, st_none, st_some, st_true, st_false, nilC, add_lit, Nat.zero_add, Nat.add_zero, nth0, nth1, nth2, nth3, nth4, nth5, nth6, List.getElem?_cons_succ, List.getElem?_cons_zero, cond_true, cond_false, pSC_orp, pSC_andp, wrap_i64, Bool.not_true, Bool.not_false, hB.ld]
  refine F35_pc (words_spec (hd.gr ht1) hb (fun s' hq w3 ho' hs3 => ?_))
  have hs5 : St w0 M ((b1, ⟨[.int .i64 p.1.t, .int .i64 p.1.k, .int .i64 p.1.g, p.2], 42⟩) :: (hq ++ (o ++ i ++ h))) w3 := (hs1.call hs3).re (fun _ => by simp only [cnt_nil, cnt_cons, cnt_append]; omega)
  refine pU_st1 hs5 ho'.one [.int .i64 p.1.t, .int .i64 p.1.k, .int .i64 p.1.g, s'] (by simp) rfl (fun w6 hs6 _ => ?_)
  simp (disch := omega) only [pV_some, pE_some, pU_some, st_add, st_sub, st_mul, st_quo, st_rem, st_eql, st_neq, st_lss, st_leq, st_gtr, st_geq, st_seq, st_sneq, st_beq, st_bneq, st_not, st_neg, st_lenS, st_capS, st_lenT, st_fldA, st_conv, st_pick, st_ext0, st_ext1, st_ext2, st_ext3, st_nilS, st_nilP, st_nilF, st_nilE, st_nilN, st_none, st_some, st_true, st_false, nilC, add_lit, Nat.zero_add, Nat.add_zero, nth0, nth1, nth2, nth3, nth4, nth5, nth6, List.getElem?_cons_succ, List.getElem?_cons_zero, cond_true, cond_false, pSC_orp, pSC_andp, wrap_i64, Bool.not_true, Bool.not_false, hs6.top.ldw (sz := 4) rfl]
  refine more_spec (p := (p.1, s')) (h := hq ++ i ++ h) ho (hs6.re (fun _ => by simp only [cnt_nil, cnt_cons, cnt_append]; omega)) ho'.one hl (fun v' o' w7 ho7 hs7 => ?_)
  exact k v' s' (o' ++ (hq ++ i)) w7 ⟨o', hq ++ i, ho7, .snoc hi ho', rfl⟩ (hs7.re (fun _ => by simp only [cnt_nil, cnt_cons, cnt_append]; omega))

/-- An input of one's own made, and appended. -/
theorem ownmore {w0 w : World} {M : Nat → Prop} {v : Value} {ps : List (In × Value)} {p : In × Value} {hp h : HP} (ho : OwnIns v ps hp) (hs : St w0 M (hp ++ h) w) (hd : RdI w p.2 p.1.d) (hb : p.1.d.length ≤ 2147483647) (hl : ps.length ≤ 1073741824) {ty : TypeId} {K : Value → World → Prop}
    (k : ∀ v' s' hp' w', OwnIns v' (ps ++ [(p.1, s')]) hp' → St w0 M (hp' ++ h) w' → K v' w') :
    pCall Try.prog 18 [inV p] w fun t w => pE (mkE 42 4 [t] w) fun x w => pE (semE Try.prog (Builtin.append_ #[22, 22] ty #[v, x]) w) K := by
  obtain ⟨o, i, ho, hi, rfl⟩ := ho
  refine F18_pc (own_spec hd hb (fun s' hq w3 ho' hs3 => ?_))
  refine more_spec (p := (p.1, s')) (h := hq ++ i ++ h) ho ((hs.call hs3).re (fun _ => by simp only [cnt_nil, cnt_cons, cnt_append]; omega)) ho'.one hl (fun v' o' w7 ho7 hs7 => ?_)
  exact k v' s' (o' ++ (hq ++ i)) w7 ⟨o', hq ++ i, ho7, .snoc hi ho', rfl⟩ (hs7.re (fun _ => by simp only [cnt_nil, cnt_cons, cnt_append]; omega))
end Go.Proofs.Ytcghhhjklihpkaa
