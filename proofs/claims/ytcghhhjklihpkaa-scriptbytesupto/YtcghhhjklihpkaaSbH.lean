/- script: the codec's writer. -/
import Derived.Test.YtcghhhjklihpkaaSbP
set_option linter.unusedSimpArgs false
set_option linter.unusedVariables false
namespace Go.Proofs.Ytcghhhjklihpkaa
open Go.Bk Go.RowKit

abbrev WT : TypeId := 79
/-- What a writer holds: its bytes; none: a fault. -/
def Wr (s : RS) (v : Value) (f : Int) (hp : HP) : Prop :=
  match s with
  | some xs => f = 0 ∧ OwnB v xs hp
  | none => f ≠ 0 ∧ ∃ xs, OwnB v xs hp
def WrSt (w0 : World) (b : Nat) (s : RS) (h : HP) (w : World) : Prop :=
  ∃ v f hp, Wr s v f hp ∧ St w0 no ((b, ⟨[v, .int .i64 f], WT⟩) :: (hp ++ h)) w
/-- Bytes so many at most. -/
def Most (n : Nat) (s : RS) : Prop := ∀ xs, s = some xs → xs.length ≤ n

theorem WrSt.tr {w0 w : World} {b : Nat} {s : RS} {h : HP} (hw : WrSt w0 b s h w) : Tr w0 no w := by
  obtain ⟨v, f, hp, _, hs⟩ := hw; exact hs.tr
theorem WrSt.sub {w0 w : World} {b : Nat} {s : RS} {h h' : HP} (hw : WrSt w0 b s h w) (hc : ∀ a, cnt a h' ≤ cnt a h) : WrSt w0 b s h' w := by
  obtain ⟨v, f, hp, hw, hs⟩ := hw
  exact ⟨v, f, hp, hw, hs.re (fun a => by have := hc a; simp only [cnt_cons, cnt_append]; omega)⟩
theorem WrSt.box {w0 w : World} {b : Nat} {s : RS} {h : HP} (hw : WrSt w0 b s h w) {t : TypeId} {v : Value} (cs : List Value) (he : v.cells.toList = cs) {K : Value → World → Prop}
    (k : ∀ b1 w', WrSt w0 b s ((b1, ⟨cs, t⟩) :: h) w' → Has w' b1 ⟨cs, t⟩ → K (.pointer (some ⟨b1, 0, none⟩)) w') : pE (boxE t v w) K := by
  obtain ⟨u, f, hp, hw, hs⟩ := hw
  refine pE_boxc hs cs he (fun b1 w1 hs1 ht1 _ => ?_)
  exact k b1 w1 ⟨u, f, hp, hw, hs1.re (fun _ => by simp only [cnt_nil, cnt_cons, cnt_append]; omega)⟩ hs1.top
theorem WrSt.has {w0 w : World} {b : Nat} {s : RS} {h : HP} (hw : WrSt w0 b s h w) {p : Nat × Blk} (hp : p ∈ h) : Has w p.1 p.2 := by
  obtain ⟨u, f, hq, hw, hs⟩ := hw
  exact hs.has p (by simp [hp])

/-- Writer.do: the closure tells bytes. -/
theorem do_ok {w0 w : World} {b : Nat} {s : RS} {h : HP} {clo : Value} {l : List Nat} (hw : WrSt w0 b s h w) (hm : Most 35184372088832 s) (hl : l.length ≤ 35184372088832)
    (hc : ∀ K', (∀ v' hp' w', OwnB v' l hp' → St w no hp' w' → K' (.tuple #[v', .int .i64 0]) w') → pCallV Try.prog clo [] w K') {K : Value → World → Prop}
    (k : ∀ w', WrSt w0 b (s.map (· ++ l)) h w' → K (.tuple #[]) w') : F49 (.pointer (some ⟨b, 0, none⟩)) clo w K := by
  unfold F49
  obtain ⟨v, f, hp, hw, hs⟩ := hw
  try simp (disch := omega) only [pV_some, pE_some, pU_some, st_add, st_sub, st_mul, st_quo, st_rem, st_eql, st_neq, st_lss, st_leq, st_gtr, st_geq, st_seq, st_sneq, st_beq, st_bneq, st_not, st_neg, st_lenS, st_capS, st_lenT, st_fldA, st_conv, st_pick, st_ext0, st_ext1, st_ext2, st_ext3, st_nilS, st_nilP, st_nilF, st_nilE, st_nilN, st_none, st_some, st_true, st_false, nilC, add_lit, Nat.zero_add, Nat.add_zero, nth0, nth1, nth2, nth3, nth4, nth5, nth6, List.getElem?_cons_succ, List.getElem?_cons_zero, cond_true, cond_false, pSC_orp, pSC_andp, wrap_i64, Bool.not_true, Bool.not_false, hs.top.ld]
  cases s with
  | none =>
    refine pIf_of (fun _ => k w ⟨v, f, hp, hw, hs⟩) (fun hf => ?_)
    have := hw.1
    simp at hf
    exact absurd hf this
  | some xs =>
    obtain ⟨rfl, ho⟩ := hw
    refine pIf_of (fun hf => by simp at hf) (fun hf => ?_)
    refine hc _ (fun v' hp' w1 ho1 hs1 => ?_)
    have hs2 := hs.call hs1
    have hs3 : St w0 no ((b, ⟨[v, .int .i64 0], WT⟩) :: (hp ++ (hp' ++ h))) w1 := hs2.re (fun _ => by simp only [cnt_nil, cnt_cons, cnt_append]; omega)
    try simp (disch := omega) only [pV_some, pE_some, pU_some, st_add, st_sub, st_mul, st_quo, st_rem, st_eql, st_neq, st_lss, st_leq, st_gtr, st_geq, st_seq, st_sneq, st_beq, st_bneq, st_not, st_neg, st_lenS, st_capS, st_lenT, st_fldA, st_conv, st_pick, st_ext0, st_ext1, st_ext2, st_ext3, st_nilS, st_nilP, st_nilF, st_nilE, st_nilN, st_none, st_some, st_true, st_false, nilC, add_lit, Nat.zero_add, Nat.add_zero, nth0, nth1, nth2, nth3, nth4, nth5, nth6, List.getElem?_cons_succ, List.getElem?_cons_zero, cond_true, cond_false, pSC_orp, pSC_andp, wrap_i64, Bool.not_true, Bool.not_false, hs3.top.ld]
    refine pIf_of (fun hf => by simp at hf) (fun hf => ?_)
    refine append_bys (h := (b, ⟨[v, .int .i64 0], WT⟩) :: (hp' ++ h)) ho (hs3.re (fun _ => by simp only [cnt_nil, cnt_cons, cnt_append]; omega)) (ho1.reads (h := []) (hs1.re (fun _ => by simp only [cnt_nil, cnt_cons, cnt_append]; omega))) (by have := hm xs rfl; omega) (fun v2 hp2 w2 ho2 hs2 => ?_)
    have hs4 : St w0 no ((b, ⟨[v, .int .i64 0], WT⟩) :: (hp2 ++ h)) w2 := hs2.re (fun _ => by simp only [cnt_nil, cnt_cons, cnt_append]; omega)
    refine pU_st1 hs4 ho2.one [v2, .int .i64 0] (by simp) rfl (fun w6 hs6 _ => ?_)
    exact k w6 ⟨v2, 0, hp2, ⟨rfl, ho2⟩, hs6⟩
/-- Writer.do: the closure tells a fault. -/
theorem do_no {w0 w : World} {b : Nat} {s : RS} {h : HP} {clo : Value} {e : Int} (hw : WrSt w0 b s h w) (he : e ≠ 0)
    (hc : ∀ K', (∀ w', St w no [] w' → K' (.tuple #[.slice none 0 0, .int .i64 e]) w') → pCallV Try.prog clo [] w K') {K : Value → World → Prop}
    (k : ∀ w', WrSt w0 b none h w' → K (.tuple #[]) w') : F49 (.pointer (some ⟨b, 0, none⟩)) clo w K := by
  unfold F49
  obtain ⟨v, f, hp, hw, hs⟩ := hw
  try simp (disch := omega) only [pV_some, pE_some, pU_some, st_add, st_sub, st_mul, st_quo, st_rem, st_eql, st_neq, st_lss, st_leq, st_gtr, st_geq, st_seq, st_sneq, st_beq, st_bneq, st_not, st_neg, st_lenS, st_capS, st_lenT, st_fldA, st_conv, st_pick, st_ext0, st_ext1, st_ext2, st_ext3, st_nilS, st_nilP, st_nilF, st_nilE, st_nilN, st_none, st_some, st_true, st_false, nilC, add_lit, Nat.zero_add, Nat.add_zero, nth0, nth1, nth2, nth3, nth4, nth5, nth6, List.getElem?_cons_succ, List.getElem?_cons_zero, cond_true, cond_false, pSC_orp, pSC_andp, wrap_i64, Bool.not_true, Bool.not_false, hs.top.ld]
  cases s with
  | none =>
    refine pIf_of (fun _ => k w ⟨v, f, hp, hw, hs⟩) (fun hf => ?_)
    have := hw.1
    simp at hf
    exact absurd hf this
  | some xs =>
    obtain ⟨rfl, ho⟩ := hw
    refine pIf_of (fun hf => by simp at hf) (fun hf => ?_)
    refine hc _ (fun w1 hs1 => ?_)
    have hs3 : St w0 no ((b, ⟨[v, .int .i64 0], WT⟩) :: (hp ++ h)) w1 := (hs.call hs1).re (fun _ => by simp only [cnt_nil, cnt_cons, cnt_append]; omega)
    try simp (disch := omega) only [pV_some, pE_some, pU_some, st_add, st_sub, st_mul, st_quo, st_rem, st_eql, st_neq, st_lss, st_leq, st_gtr, st_geq, st_seq, st_sneq, st_beq, st_bneq, st_not, st_neg, st_lenS, st_capS, st_lenT, st_fldA, st_conv, st_pick, st_ext0, st_ext1, st_ext2, st_ext3, st_nilS, st_nilP, st_nilF, st_nilE, st_nilN, st_none, st_some, st_true, st_false, nilC, add_lit, Nat.zero_add, Nat.add_zero, nth0, nth1, nth2, nth3, nth4, nth5, nth6, List.getElem?_cons_succ, List.getElem?_cons_zero, cond_true, cond_false, pSC_orp, pSC_andp, wrap_i64, Bool.not_true, Bool.not_false]
    refine pIf_of (fun hf => ?_) (fun hf => by simp [he] at hf)
    refine pU_st1 hs3 rfl [v, .int .i64 e] (by simp) rfl (fun w6 hs6 _ => ?_)
    exact k w6 ⟨v, e, hp, ⟨he, xs, ho⟩, hs6⟩

/-- Writer.I64. -/
theorem wI64_spec {w0 w : World} {b : Nat} {s : RS} {h : HP} (x : Int) (hw : WrSt w0 b s h w) (hm : Most 35184372088832 s) {K : Value → World → Prop}
    (k : ∀ w', WrSt w0 b (s.map (· ++ n8 x)) h w' → K (.tuple #[]) w') : F52 (.pointer (some ⟨b, 0, none⟩)) (.int .i64 x) w K := by
  unfold F52
  refine hw.box [.int .i64 x] rfl (fun b1 w1 hw1 hB => ?_)
  refine F49_pc (do_ok (l := n8 x) hw1 hm (by rw [n8_len]; omega) (fun K' hk => ?_) (fun w2 hw2 => ?_))
  · refine pCallV_func (F60_pc ?_)
    unfold F60
    try simp (disch := omega) only [pV_some, pE_some, pU_some, st_add, st_sub, st_mul, st_quo, st_rem, st_eql, st_neq, st_lss, st_leq, st_gtr, st_geq, st_seq, st_sneq, st_beq, st_bneq, st_not, st_neg, st_lenS, st_capS, st_lenT, st_fldA, st_conv, st_pick, st_ext0, st_ext1, st_ext2, st_ext3, st_nilS, st_nilP, st_nilF, st_nilE, st_nilN, st_none, st_some, st_true, st_false, nilC, add_lit, Nat.zero_add, Nat.add_zero, nth0, nth1, nth2, nth3, nth4, nth5, nth6, List.getElem?_cons_succ, List.getElem?_cons_zero, cond_true, cond_false, pSC_orp, pSC_andp, wrap_i64, Bool.not_true, Bool.not_false, hB.ld, uw_wrap]
    exact F51_pc (big_spec (uw x) 8 (by omega) (fun v2 hp2 w2 ho2 hs2 => hk v2 hp2 w2 ho2 hs2))
  · exact k w2 (hw2.sub (fun _ => by simp only [cnt_nil, cnt_cons, cnt_append]; omega))

/-- The state behind so many words. -/
def wD (s : RS) (d : List Int) : RS := s.map (· ++ encD d)
/-- PutList of words. -/
def wList (s : RS) (d : List Int) : RS := if d.length > 4194316 then none else s.map (· ++ (n4 d.length ++ encD d))
theorem Most.app {n m : Nat} {s : RS} {l : List Nat} (h : Most n s) (hl : n + l.length ≤ m) : Most m (s.map (· ++ l)) := by
  intro xs hx
  cases s with
  | none => cases hx
  | some ys =>
    simp only [Option.map_some, Option.some.injEq] at hx
    have := h ys rfl
    rw [← hx, List.length_append]; omega
theorem wList_spec {w0 w : World} {b : Nat} {s : RS} {h : HP} {v : Value} {d : List Int} (hw : WrSt w0 b s h w) (hd : RdI w0 v d) (hl : d.length ≤ 1048576) (hm : Most 2199023255552 s) {K : Value → World → Prop}
    (k : ∀ w', WrSt w0 b (s.map (· ++ (n4 d.length ++ encD d))) h w' → K (.tuple #[]) w') : F53 (.pointer (some ⟨b, 0, none⟩)) v (.int .i64 4194316) (.func (.func 52) #[] #[]) w K := by
  unfold F53
  have hvc := hd.cells
  refine hw.box [v] (by rw [hvc]) (fun b1 w1 hw1 hB => ?_)
  refine hw1.box [.int .i64 4194316] rfl (fun b2 w2 hw2 hC => ?_)
  have hB2 : Has w2 b1 ⟨[v], 40⟩ := hw2.has (p := (b1, ⟨[v], 40⟩)) (by simp)
  refine F49_pc (do_ok (l := n4 d.length) hw2 (fun xs hx => Nat.le_trans (hm xs hx) (by omega)) (by rw [n4_len]; omega) (fun K' hk => ?_) (fun w3 hw3 => ?_))
  · refine pCallV_func (F61_pc ?_)
    unfold F61
    try simp (disch := omega) only [pV_some, pE_some, pU_some, st_add, st_sub, st_mul, st_quo, st_rem, st_eql, st_neq, st_lss, st_leq, st_gtr, st_geq, st_seq, st_sneq, st_beq, st_bneq, st_not, st_neg, st_lenS, st_capS, st_lenT, st_fldA, st_conv, st_pick, st_ext0, st_ext1, st_ext2, st_ext3, st_nilS, st_nilP, st_nilF, st_nilE, st_nilN, st_none, st_some, st_true, st_false, nilC, add_lit, Nat.zero_add, Nat.add_zero, nth0, nth1, nth2, nth3, nth4, nth5, nth6, List.getElem?_cons_succ, List.getElem?_cons_zero, cond_true, cond_false, pSC_orp, pSC_andp, wrap_i64, Bool.not_true, Bool.not_false, hB2.ld, hC.ld, hd.len]
    refine pIf_of (fun hf => by simp at hf; omega) (fun hf => ?_)
    try simp (disch := omega) only [pV_some, pE_some, pU_some, st_add, st_sub, st_mul, st_quo, st_rem, st_eql, st_neq, st_lss, st_leq, st_gtr, st_geq, st_seq, st_sneq, st_beq, st_bneq, st_not, st_neg, st_lenS, st_capS, st_lenT, st_fldA, st_conv, st_pick, st_ext0, st_ext1, st_ext2, st_ext3, st_nilS, st_nilP, st_nilF, st_nilE, st_nilN, st_none, st_some, st_true, st_false, nilC, add_lit, Nat.zero_add, Nat.add_zero, nth0, nth1, nth2, nth3, nth4, nth5, nth6, List.getElem?_cons_succ, List.getElem?_cons_zero, cond_true, cond_false, pSC_orp, pSC_andp, wrap_i64, Bool.not_true, Bool.not_false, wrap_u64]
    rw [Nat.mod_eq_of_lt (show d.length < 18446744073709551616 by omega)]
    exact F51_pc (big_spec d.length 4 (by omega) (fun v2 hp2 w2 ho2 hs2 => hk v2 hp2 w2 ho2 hs2))
  · have hB3 : Has w3 b1 ⟨[v], 40⟩ := hw3.has (p := (b1, ⟨[v], 40⟩)) (by simp)
    try simp (disch := omega) only [pV_some, pE_some, pU_some, st_add, st_sub, st_mul, st_quo, st_rem, st_eql, st_neq, st_lss, st_leq, st_gtr, st_geq, st_seq, st_sneq, st_beq, st_bneq, st_not, st_neg, st_lenS, st_capS, st_lenT, st_fldA, st_conv, st_pick, st_ext0, st_ext1, st_ext2, st_ext3, st_nilS, st_nilP, st_nilF, st_nilE, st_nilN, st_none, st_some, st_true, st_false, nilC, add_lit, Nat.zero_add, Nat.add_zero, nth0, nth1, nth2, nth3, nth4, nth5, nth6, List.getElem?_cons_succ, List.getElem?_cons_zero, cond_true, cond_false, pSC_orp, pSC_andp, wrap_i64, Bool.not_true, Bool.not_false, hB3.ld, hd.len]
    refine pLoop_up (I := fun i vs w' => vs = [.int .i64 (i : Nat)] ∧ WrSt w0 b (s.map (· ++ (n4 d.length ++ encD (d.take i)))) h w') d.length 0 (Nat.zero_le _) ⟨rfl, ?_⟩ ?_
    · have := hw3.sub (h' := h) (fun _ => by simp only [cnt_nil, cnt_cons, cnt_append]; omega)
      simpa [encD] using this
    rintro i vs w4 hi ⟨rfl, hw4⟩ go hgo
    try simp (disch := omega) only [pV_some, pE_some, pU_some, st_add, st_sub, st_mul, st_quo, st_rem, st_eql, st_neq, st_lss, st_leq, st_gtr, st_geq, st_seq, st_sneq, st_beq, st_bneq, st_not, st_neg, st_lenS, st_capS, st_lenT, st_fldA, st_conv, st_pick, st_ext0, st_ext1, st_ext2, st_ext3, st_nilS, st_nilP, st_nilF, st_nilE, st_nilN, st_none, st_some, st_true, st_false, nilC, add_lit, Nat.zero_add, Nat.add_zero, nth0, nth1, nth2, nth3, nth4, nth5, nth6, List.getElem?_cons_succ, List.getElem?_cons_zero, cond_true, cond_false, pSC_orp, pSC_andp, wrap_i64, Bool.not_true, Bool.not_false]
    refine pIf_of (fun hlt => ?_) (fun hlt => ?_)
    · have hlt : i < d.length := by simpa using hlt
      have hx := List.getElem?_eq_getElem hlt
      obtain ⟨ad, i1, c1⟩ := (hd.gr hw4.tr).at1 (ints_at hx) (x := i) rfl
      have hmi : Most 35184372088832 (s.map (· ++ (n4 d.length ++ encD (d.take i)))) := hm.app (by rw [List.length_append, n4_len, encD_len, List.length_take]; omega)
      have hw4' := hw4
      obtain ⟨u, f, hp, hwr, hs⟩ := hw4
      try simp (disch := omega) only [pV_some, pE_some, pU_some, st_add, st_sub, st_mul, st_quo, st_rem, st_eql, st_neq, st_lss, st_leq, st_gtr, st_geq, st_seq, st_sneq, st_beq, st_bneq, st_not, st_neg, st_lenS, st_capS, st_lenT, st_fldA, st_conv, st_pick, st_ext0, st_ext1, st_ext2, st_ext3, st_nilS, st_nilP, st_nilF, st_nilE, st_nilN, st_none, st_some, st_true, st_false, nilC, add_lit, Nat.zero_add, Nat.add_zero, nth0, nth1, nth2, nth3, nth4, nth5, nth6, List.getElem?_cons_succ, List.getElem?_cons_zero, cond_true, cond_false, pSC_orp, pSC_andp, wrap_i64, Bool.not_true, Bool.not_false, i1, ld1r c1, hs.top.ld]
      refine pIf_of (fun hf => ?_) (fun hf => ?_)
      · have : s = none := by
          cases s with
          | none => rfl
          | some xs => simp [hwr.1] at hf
        subst this
        exact k w4 hw4'
      · refine pCallV_func (F52_pc (wI64_spec d[i] hw4' hmi (fun w5 hw5 => ?_)))
        refine hgo _ _ hlt ⟨by simp, ?_⟩
        rw [List.take_add_one, hx]
        simp only [Option.map_map] at hw5
        have e : encD (d.take i ++ (some d[i]).toList) = encD (d.take i) ++ n8 d[i] := by rw [encD_append]; congr 1
        rw [e]
        have e2 : (fun x => x ++ (n4 d.length ++ (encD (d.take i) ++ n8 d[i]))) = ((fun x => x ++ n8 d[i]) ∘ fun x => x ++ (n4 d.length ++ encD (d.take i))) := by
          funext x; simp
        rw [e2]
        exact hw5
    · obtain rfl : i = d.length := by simp at hlt; omega
      rw [List.take_length] at hw4
      exact k w4 hw4

/-- script.put. -/
theorem put_spec {w0 w : World} {b : Nat} {s : RS} {h : HP} {p : In × Value} (hw : WrSt w0 b s h w) (hd : RdI w0 p.2 p.1.d) (hl : p.1.d.length ≤ 1048576) (hm : Most 1099511627776 s) {K : Value → World → Prop}
    (k : ∀ w', WrSt w0 b (s.map (· ++ enc1 p.1)) h w' → K (.tuple #[]) w') : F38 (.pointer (some ⟨b, 0, none⟩)) (inV p) w K := by
  unfold F38
  refine hw.box [.int .i64 p.1.t, .int .i64 p.1.k, .int .i64 p.1.g, p.2] rfl (fun b1 w1 hw1 hB => ?_)
  try simp (disch := omega) only [pV_some, pE_some, pU_some, st_add, st_sub, st_mul, st_quo, st_rem, st_eql, st_neq, st_lss, st_leq, st_gtr, st_geq, st_seq, st_sneq, st_beq, st_bneq, st_not, st_neg, st_lenS, st_capS, st_lenT, st_fldA, st_conv, st_pick, st_ext0, st_ext1, st_ext2, st_ext3, st_nilS, st_nilP, st_nilF, st_nilE, st_nilN, st_none, st_some, st_true, st_false, nilC, add_lit, Nat.zero_add, Nat.add_zero, nth0, nth1, nth2, nth3, nth4, nth5, nth6, List.getElem?_cons_succ, List.getElem?_cons_zero, cond_true, cond_false, pSC_orp, pSC_andp, wrap_i64, Bool.not_true, Bool.not_false, hB.ld]
  refine F52_pc (wI64_spec p.1.t hw1 (fun xs hx => Nat.le_trans (hm xs hx) (by omega)) (fun w2 hw2 => ?_))
  have hm2 : Most 1099511627784 (s.map (· ++ n8 p.1.t)) := hm.app (by rw [n8_len]; omega)
  have hB := hw2.has (p := (b1, ⟨[.int .i64 p.1.t, .int .i64 p.1.k, .int .i64 p.1.g, p.2], 42⟩)) (by simp)
  try simp (disch := omega) only [pV_some, pE_some, pU_some, st_add, st_sub, st_mul, st_quo, st_rem, st_eql, st_neq, st_lss, st_leq, st_gtr, st_geq, st_seq, st_sneq, st_beq, st_bneq, st_not, st_neg, st_lenS, st_capS, st_lenT, st_fldA, st_conv, st_pick, st_ext0, st_ext1, st_ext2, st_ext3, st_nilS, st_nilP, st_nilF, st_nilE, st_nilN, st_none, st_some, st_true, st_false, nilC, add_lit, Nat.zero_add, Nat.add_zero, nth0, nth1, nth2, nth3, nth4, nth5, nth6, List.getElem?_cons_succ, List.getElem?_cons_zero, cond_true, cond_false, pSC_orp, pSC_andp, wrap_i64, Bool.not_true, Bool.not_false, hB.ld]
  refine F52_pc (wI64_spec p.1.k hw2 (fun xs hx => Nat.le_trans (hm2 xs hx) (by omega)) (fun w3 hw3 => ?_))
  have hm3 : Most 1099511627792 ((s.map (· ++ n8 p.1.t)).map (· ++ n8 p.1.k)) := hm2.app (by rw [n8_len]; omega)
  have hB := hw3.has (p := (b1, ⟨[.int .i64 p.1.t, .int .i64 p.1.k, .int .i64 p.1.g, p.2], 42⟩)) (by simp)
  try simp (disch := omega) only [pV_some, pE_some, pU_some, st_add, st_sub, st_mul, st_quo, st_rem, st_eql, st_neq, st_lss, st_leq, st_gtr, st_geq, st_seq, st_sneq, st_beq, st_bneq, st_not, st_neg, st_lenS, st_capS, st_lenT, st_fldA, st_conv, st_pick, st_ext0, st_ext1, st_ext2, st_ext3, st_nilS, st_nilP, st_nilF, st_nilE, st_nilN, st_none, st_some, st_true, st_false, nilC, add_lit, Nat.zero_add, Nat.add_zero, nth0, nth1, nth2, nth3, nth4, nth5, nth6, List.getElem?_cons_succ, List.getElem?_cons_zero, cond_true, cond_false, pSC_orp, pSC_andp, wrap_i64, Bool.not_true, Bool.not_false, hB.ld]
  refine F52_pc (wI64_spec p.1.g hw3 (fun xs hx => Nat.le_trans (hm3 xs hx) (by omega)) (fun w4 hw4 => ?_))
  have hm4 : Most 1099511627800 (((s.map (· ++ n8 p.1.t)).map (· ++ n8 p.1.k)).map (· ++ n8 p.1.g)) := hm3.app (by rw [n8_len]; omega)
  have hB := hw4.has (p := (b1, ⟨[.int .i64 p.1.t, .int .i64 p.1.k, .int .i64 p.1.g, p.2], 42⟩)) (by simp)
  try simp (disch := omega) only [pV_some, pE_some, pU_some, st_add, st_sub, st_mul, st_quo, st_rem, st_eql, st_neq, st_lss, st_leq, st_gtr, st_geq, st_seq, st_sneq, st_beq, st_bneq, st_not, st_neg, st_lenS, st_capS, st_lenT, st_fldA, st_conv, st_pick, st_ext0, st_ext1, st_ext2, st_ext3, st_nilS, st_nilP, st_nilF, st_nilE, st_nilN, st_none, st_some, st_true, st_false, nilC, add_lit, Nat.zero_add, Nat.add_zero, nth0, nth1, nth2, nth3, nth4, nth5, nth6, List.getElem?_cons_succ, List.getElem?_cons_zero, cond_true, cond_false, pSC_orp, pSC_andp, wrap_i64, Bool.not_true, Bool.not_false, hB.ld]
  refine F53_pc (wList_spec hw4 hd hl (fun xs hx => Nat.le_trans (hm4 xs hx) (by omega)) (fun w5 hw5 => ?_))
  have e : (((s.map (· ++ n8 p.1.t)).map (· ++ n8 p.1.k)).map (· ++ n8 p.1.g)).map (· ++ (n4 p.1.d.length ++ encD p.1.d)) = s.map (· ++ enc1 p.1) := by
    cases s with
    | none => rfl
    | some xs => simp [enc1]
  rw [e] at hw5
  exact k w5 (hw5.sub (fun _ => by simp only [cnt_nil, cnt_cons, cnt_append]; omega))
end Go.Proofs.Ytcghhhjklihpkaa
