/- wheel: WheelExact. -/
import Derived.Test.YtbbjljhbiaeadaaWhS
set_option linter.unusedSimpArgs false
set_option linter.unusedVariables false
set_option maxRecDepth 100000
namespace Go.Proofs.Ytbbjljhbiaeadaa
open Go.Bk Go.RowKit

theorem newB_spec {w : World} (now : Int) {K : Value → World → Prop}
    (k : ∀ (op : Option Addr) (e : Int) (hp : HP) (w' : World), (op = none ∧ e = 2 ∧ (now < 0 ∨ 1099511627776 < now) ∧ hp = []) ∨ (∃ n p, op = some ⟨p, 0, none⟩ ∧ e = 0 ∧ now = (n : Nat) ∧ n ≤ 1099511627776 ∧ WheelAt p n [] hp) → St w no hp w' → K (.tuple #[.pointer op, .int .i64 e]) w') : F18 (.int .i64 now) w K := by
  refine new_spec now (fun h => ?_) (fun n hn hn2 p hp w1 hw1 hs1 => ?_)
  · exact k none 2 [] w (.inl ⟨rfl, rfl, h, rfl⟩) (St.nil _ _)
  · exact k _ 0 hp w1 (.inr ⟨n, p, rfl, rfl, hn, hn2, ⟨[], hw1, abs_nil⟩⟩) hs1
theorem newRB_spec {w : World} (now : Int) {K : Value → World → Prop}
    (k : ∀ (x e : Int) (w' : World), (x = 0 ∧ e = 2 ∧ (now < 0 ∨ 1099511627776 < now)) ∨ (x = now ∧ e = 0 ∧ 0 ≤ now ∧ now ≤ 1099511627776) → St w no [] w' → K (.tuple #[wV x (.slice none 0 0), .int .i64 e]) w') : F19 (.int .i64 now) w K :=
  newR_spec now (fun h w' hs => k 0 2 w' (.inl ⟨rfl, rfl, h⟩) hs) (fun h w' hs => k now 0 w' (.inr ⟨rfl, rfl, h⟩) hs)

/-- A wheel and the document's. -/
def PairAt (b p : Nat) (h : HP) : Prop := ∃ (n : Nat) (L : List (Int × Int)) (v : Value) (hp hv : HP), WheelAt p n L hp ∧ OwnF v L hv ∧ h = (b, ⟨pC3 p n v, (.t 51)⟩) :: (hp ++ hv)
theorem pU_p3b {w0 w : World} {M : Nat → Prop} {h : HP} {b p : Nat} {n now : Int} {u v : Value} {ty : TypeId} (hs : St w0 M ((b, ⟨pC3 p n u, ty⟩) :: h) w) (hv : oneC v = true) {K : World → Prop}
    (k : ∀ w', St w0 M ((b, ⟨pC3 p now v, ty⟩) :: h) w' → ldV true 3 w' (.pointer (some ⟨b, 0, none⟩)) = some (pV3 p now v) → K w') : pU (stE 3 (.pointer (some ⟨b, 0, none⟩)) (pV3 p now v) w) K :=
  pU_p3 hs hv k
theorem play_pair (so : SortOK) {w0 w : World} {M : Nat → Prop} {b p : Nat} {h r : HP} (hP : PairAt b p h) (hs : St w0 M (h ++ r) w) (o : Op) :
    ∃ pv, ldV true 3 w (.pointer (some ⟨b, 0, none⟩)) = some pv ∧ ∀ J : Value → Value → Value → World → Prop,
      (∀ h' l u lst hl hu w', PairAt b p h' → OwnF l lst hl → OwnF u lst hu → lst.length ≤ 65536 → St w0 M (h' ++ (hl ++ (hu ++ r))) w' → J l u (.bool true) w') →
      pCall Try.prog 20 [pv, opV o] w fun t w => pV (extV t 0) fun t0 => pV (extV t 1) fun t1 => pV (extV t 2) fun t2 => pV (extV t 3) fun t3 => pU (stE 3 (.pointer (some ⟨b, 0, none⟩)) t0 w) fun w => J t1 t2 t3 w := by
  obtain ⟨n, L, v, hp, hv, hw, ho, rfl⟩ := hP
  refine ⟨pV3 p n v, (hs.has (b, ⟨pC3 p n v, (.t 51)⟩) (by simp)).ldw rfl, fun J hJ => ?_⟩
  refine F20_pc (play_spec so hw ho (r := (b, ⟨pC3 p n v, (.t 51)⟩) :: r) (hs.re (fun _ => by simp only [cnt_nil, cnt_cons, cnt_append]; omega)) o (fun n' L' v' hp' hv' l u lst hl hu w' h1 h2 h3 h4 h5 h6 => ?_))
  try simp (disch := omega) only [pV_some, pE_some, pU_some, st_add, st_sub, st_mul, st_quo, st_rem, st_eql, st_neq, st_lss, st_leq, st_gtr, st_geq, st_seq, st_sneq, st_beq, st_bneq, st_not, st_neg, st_lenS, st_capS, st_lenT, st_fldA, st_conv, st_pick, st_ext0, st_ext1, st_ext2, st_ext3, st_nilS, st_nilP, st_nilF, st_nilE, st_nilN, st_none, st_some, st_true, st_false, nilC, add_lit, Nat.zero_add, Nat.add_zero, nth0, nth1, nth2, nth3, nth4, nth5, nth6, List.getElem?_cons_succ, List.getElem?_cons_zero, cond_true, cond_false, pSC_orp, pSC_andp, wrap_i64, Bool.not_true, Bool.not_false]
  refine pU_p3b (b := b) (p := p) (n := n) (u := v) (ty := 51) (h := hp' ++ (hv' ++ (hl ++ (hu ++ r)))) (h6.re (fun _ => by simp only [cnt_nil, cnt_cons, cnt_append]; omega)) h2.one (fun w7 hs7 hl7 => ?_)
  exact hJ _ l u lst hl hu w7 ⟨n', L', v', hp', hv', h1, h2, rfl⟩ h3 h4 h5 (hs7.re (fun _ => by simp only [cnt_nil, cnt_cons, cnt_append]; omega))
theorem asked_pair {w0 w : World} {M : Nat → Prop} {b p : Nat} {h r : HP} (hP : PairAt b p h) (hs : St w0 M (h ++ r) w) (id : Int) :
    ∃ pv, ldV true 3 w (.pointer (some ⟨b, 0, none⟩)) = some pv ∧ ∀ J : Value → World → Prop,
      (∀ w', St w0 M (h ++ r) w' → J (.bool true) w') → pCall Try.prog 22 [pv, .int .i64 id] w J := by
  obtain ⟨n, L, v, hp, hv, hw, ho, rfl⟩ := hP
  refine ⟨pV3 p n v, (hs.has (b, ⟨pC3 p n v, (.t 51)⟩) (by simp)).ldw rfl, fun J hJ => ?_⟩
  refine F22_pc (asked_spec hw ho (r := (b, ⟨pC3 p n v, (.t 51)⟩) :: r) (hs.re (fun _ => by simp only [cnt_nil, cnt_cons, cnt_append]; omega)) id (fun w' hs' => ?_))
  exact hJ w' (hs'.re (fun _ => by simp only [cnt_nil, cnt_cons, cnt_append]; omega))

abbrev RdO (w : World) (v : Value) (l : List Op) : Prop := RdC w 4 v l.length ((l.map opC).flatten)
theorem RdC.oat {w : World} {v : Value} {l : List Op} (h : RdO w v l) {i : Nat} {e : Op} (he : l[i]? = some e) {x : Int} (hx : x = i) : ∃ ad, idxV 4 v (.int .i64 x) = some (.pointer (some ad)) ∧ CellsAt w ad (opC e) := by
  obtain ⟨ad, h1, h2⟩ := h.idx (List.getElem?_eq_some_iff.1 he).1 hx
  exact ⟨ad, h1, by rw [flat_slot opC 4 (fun _ => rfl) l i e he] at h2; exact h2⟩

theorem exact_spec (so : SortOK) {w0 : World} {vs : Value} {script : List Op} (hsc : RdO w0 vs script) (now then_ : Int) {K : Value → World → Prop}
    (k : ∀ w', St w0 no [] w' → K (.bool true) w') : F5 (.int .i64 now) (.int .i64 then_) vs w0 K := by
  unfold F5
  refine F18_pc (newB_spec now (fun op1 e1 hp w1 hc1 hs1 => ?_))
  try simp (disch := omega) only [pV_some, pE_some, pU_some, st_add, st_sub, st_mul, st_quo, st_rem, st_eql, st_neq, st_lss, st_leq, st_gtr, st_geq, st_seq, st_sneq, st_beq, st_bneq, st_not, st_neg, st_lenS, st_capS, st_lenT, st_fldA, st_conv, st_pick, st_ext0, st_ext1, st_ext2, st_ext3, st_nilS, st_nilP, st_nilF, st_nilE, st_nilN, st_none, st_some, st_true, st_false, nilC, add_lit, Nat.zero_add, Nat.add_zero, nth0, nth1, nth2, nth3, nth4, nth5, nth6, List.getElem?_cons_succ, List.getElem?_cons_zero, cond_true, cond_false, pSC_orp, pSC_andp, wrap_i64, Bool.not_true, Bool.not_false]
  refine F18_pc (newB_spec then_ (fun op2 e2 hq w2 hc2 hs2 => ?_))
  have hs2 := hs1.call hs2
  try simp (disch := omega) only [pV_some, pE_some, pU_some, st_add, st_sub, st_mul, st_quo, st_rem, st_eql, st_neq, st_lss, st_leq, st_gtr, st_geq, st_seq, st_sneq, st_beq, st_bneq, st_not, st_neg, st_lenS, st_capS, st_lenT, st_fldA, st_conv, st_pick, st_ext0, st_ext1, st_ext2, st_ext3, st_nilS, st_nilP, st_nilF, st_nilE, st_nilN, st_none, st_some, st_true, st_false, nilC, add_lit, Nat.zero_add, Nat.add_zero, nth0, nth1, nth2, nth3, nth4, nth5, nth6, List.getElem?_cons_succ, List.getElem?_cons_zero, cond_true, cond_false, pSC_orp, pSC_andp, wrap_i64, Bool.not_true, Bool.not_false]
  refine F19_pc (newRB_spec now (fun x1 g1 w3 hd1 hs3 => ?_))
  have hs3 := hs2.call hs3
  try simp (disch := omega) only [pV_some, pE_some, pU_some, st_add, st_sub, st_mul, st_quo, st_rem, st_eql, st_neq, st_lss, st_leq, st_gtr, st_geq, st_seq, st_sneq, st_beq, st_bneq, st_not, st_neg, st_lenS, st_capS, st_lenT, st_fldA, st_conv, st_pick, st_ext0, st_ext1, st_ext2, st_ext3, st_nilS, st_nilP, st_nilF, st_nilE, st_nilN, st_none, st_some, st_true, st_false, nilC, add_lit, Nat.zero_add, Nat.add_zero, nth0, nth1, nth2, nth3, nth4, nth5, nth6, List.getElem?_cons_succ, List.getElem?_cons_zero, cond_true, cond_false, pSC_orp, pSC_andp, wrap_i64, Bool.not_true, Bool.not_false]
  refine pE_boxc hs3 [.int .i64 0, .slice none 0 0] rfl (fun b1 w4 hs4 _ _ => ?_)
  refine pU_wV hs4 rfl (fun w5 hs5 hl5 => ?_)
  refine F19_pc (newRB_spec then_ (fun x2 g2 w6 hd2 hs6 => ?_))
  have hs6 := hs5.call hs6
  try simp (disch := omega) only [pV_some, pE_some, pU_some, st_add, st_sub, st_mul, st_quo, st_rem, st_eql, st_neq, st_lss, st_leq, st_gtr, st_geq, st_seq, st_sneq, st_beq, st_bneq, st_not, st_neg, st_lenS, st_capS, st_lenT, st_fldA, st_conv, st_pick, st_ext0, st_ext1, st_ext2, st_ext3, st_nilS, st_nilP, st_nilF, st_nilE, st_nilN, st_none, st_some, st_true, st_false, nilC, add_lit, Nat.zero_add, Nat.add_zero, nth0, nth1, nth2, nth3, nth4, nth5, nth6, List.getElem?_cons_succ, List.getElem?_cons_zero, cond_true, cond_false, pSC_orp, pSC_andp, wrap_i64, Bool.not_true, Bool.not_false]
  refine pE_boxc hs6 [.int .i64 0, .slice none 0 0] rfl (fun b2 w7 hs7 _ _ => ?_)
  refine pU_wV hs7 rfl (fun w8 hs8 hl8 => ?_)
  have l1 : ldV true 2 w8 (.pointer (some ⟨b1, 0, none⟩)) = some (wV x1 (.slice none 0 0)) := (hs8.has (b1, ⟨[.int .i64 x1, .slice none 0 0], (.t 47)⟩) (by simp)).ldw rfl
  rcases hc1 with ⟨rfl, rfl, hb1, rfl⟩ | ⟨n1, p, rfl, rfl, hn1, hm1, hw1⟩
  · have hd1 : g1 = 2 := by omega
    subst hd1
    have hc2' : e2 = g2 := by rcases hc2 with ⟨_, h, hb, _⟩ | ⟨n, q, _, h, hn, hm, _⟩ <;> omega
    have hnil2 : op2.isNone = !decide (g2 = 0) := by
      rcases hc2 with ⟨rfl, h, hb, _⟩ | ⟨n, q, rfl, h, hn, hm, _⟩
      · have : g2 = 2 := by omega
        subst this; rfl
      · have : g2 = 0 := by omega
        subst this; rfl
    try simp (disch := omega) only [pV_some, pE_some, pU_some, st_add, st_sub, st_mul, st_quo, st_rem, st_eql, st_neq, st_lss, st_leq, st_gtr, st_geq, st_seq, st_sneq, st_beq, st_bneq, st_not, st_neg, st_lenS, st_capS, st_lenT, st_fldA, st_conv, st_pick, st_ext0, st_ext1, st_ext2, st_ext3, st_nilS, st_nilP, st_nilF, st_nilE, st_nilN, st_none, st_some, st_true, st_false, nilC, add_lit, Nat.zero_add, Nat.add_zero, nth0, nth1, nth2, nth3, nth4, nth5, nth6, List.getElem?_cons_succ, List.getElem?_cons_zero, cond_true, cond_false, pSC_orp, pSC_andp, wrap_i64, Bool.not_true, Bool.not_false, hc2', hnil2, eq_self, decide_true, beq_self_eq_true, Bool.or_self, Bool.not_true, hsc.len]
    refine pIf_of (fun h => by simp at h) (fun _ => ?_)
    refine pIf_of (fun _ => k w8 (hs8.re (fun _ => by simp only [cnt_nil, cnt_cons, cnt_append]; omega))) (fun h => by simp at h)
  have hd1' : g1 = 0 ∧ x1 = n1 := by omega
  obtain ⟨rfl, rfl⟩ := hd1'
  rcases hc2 with ⟨rfl, rfl, hb2, rfl⟩ | ⟨n2, q, rfl, rfl, hn2, hm2, hw2⟩
  · have hd2 : g2 = 2 := by omega
    subst hd2
    try simp (disch := omega) only [pV_some, pE_some, pU_some, st_add, st_sub, st_mul, st_quo, st_rem, st_eql, st_neq, st_lss, st_leq, st_gtr, st_geq, st_seq, st_sneq, st_beq, st_bneq, st_not, st_neg, st_lenS, st_capS, st_lenT, st_fldA, st_conv, st_pick, st_ext0, st_ext1, st_ext2, st_ext3, st_nilS, st_nilP, st_nilF, st_nilE, st_nilN, st_none, st_some, st_true, st_false, nilC, add_lit, Nat.zero_add, Nat.add_zero, nth0, nth1, nth2, nth3, nth4, nth5, nth6, List.getElem?_cons_succ, List.getElem?_cons_zero, cond_true, cond_false, pSC_orp, pSC_andp, wrap_i64, Bool.not_true, Bool.not_false, eq_self, decide_true, beq_self_eq_true, Bool.or_self, Bool.not_true, hsc.len]
    refine pIf_of (fun h => by simp at h) (fun _ => ?_)
    refine pIf_of (fun _ => k w8 (hs8.re (fun _ => by simp only [cnt_nil, cnt_cons, cnt_append]; omega))) (fun h => by simp at h)
  have hd2' : g2 = 0 ∧ x2 = n2 := by omega
  obtain ⟨rfl, rfl⟩ := hd2'
  try simp (disch := omega) only [pV_some, pE_some, pU_some, st_add, st_sub, st_mul, st_quo, st_rem, st_eql, st_neq, st_lss, st_leq, st_gtr, st_geq, st_seq, st_sneq, st_beq, st_bneq, st_not, st_neg, st_lenS, st_capS, st_lenT, st_fldA, st_conv, st_pick, st_ext0, st_ext1, st_ext2, st_ext3, st_nilS, st_nilP, st_nilF, st_nilE, st_nilN, st_none, st_some, st_true, st_false, nilC, add_lit, Nat.zero_add, Nat.add_zero, nth0, nth1, nth2, nth3, nth4, nth5, nth6, List.getElem?_cons_succ, List.getElem?_cons_zero, cond_true, cond_false, pSC_orp, pSC_andp, wrap_i64, Bool.not_true, Bool.not_false, eq_self, decide_true, beq_self_eq_true, Bool.or_self, Bool.not_true, Bool.false_or, hsc.len]
  refine pIf_of (fun hbig => k w8 (hs8.re (fun _ => by simp only [cnt_nil, cnt_cons, cnt_append]; omega))) (fun hbig => ?_)
  have hbig : script.length ≤ 3000 := by simp at hbig; omega
  try simp (disch := omega) only [pV_some, pE_some, pU_some, st_add, st_sub, st_mul, st_quo, st_rem, st_eql, st_neq, st_lss, st_leq, st_gtr, st_geq, st_seq, st_sneq, st_beq, st_bneq, st_not, st_neg, st_lenS, st_capS, st_lenT, st_fldA, st_conv, st_pick, st_ext0, st_ext1, st_ext2, st_ext3, st_nilS, st_nilP, st_nilF, st_nilE, st_nilN, st_none, st_some, st_true, st_false, nilC, add_lit, Nat.zero_add, Nat.add_zero, nth0, nth1, nth2, nth3, nth4, nth5, nth6, List.getElem?_cons_succ, List.getElem?_cons_zero, cond_true, cond_false, pSC_orp, pSC_andp, wrap_i64, Bool.not_true, Bool.not_false, l1]
  refine pV_eq (show _ = some (pV3 p n1 (.slice none 0 0)) from rfl) ?_
  refine pE_boxc hs8 [.pointer none, .int .i64 0, .slice none 0 0] rfl (fun b3 w9 hs9 _ _ => ?_)
  refine pU_p3 hs9 rfl (fun w10 hs10 _ => ?_)
  have l2 : ldV true 2 w10 (.pointer (some ⟨b2, 0, none⟩)) = some (wV n2 (.slice none 0 0)) := (hs10.has (b2, ⟨[.int .i64 n2, .slice none 0 0], (.t 47)⟩) (by simp)).ldw rfl
  try simp (disch := omega) only [pV_some, pE_some, pU_some, st_add, st_sub, st_mul, st_quo, st_rem, st_eql, st_neq, st_lss, st_leq, st_gtr, st_geq, st_seq, st_sneq, st_beq, st_bneq, st_not, st_neg, st_lenS, st_capS, st_lenT, st_fldA, st_conv, st_pick, st_ext0, st_ext1, st_ext2, st_ext3, st_nilS, st_nilP, st_nilF, st_nilE, st_nilN, st_none, st_some, st_true, st_false, nilC, add_lit, Nat.zero_add, Nat.add_zero, nth0, nth1, nth2, nth3, nth4, nth5, nth6, List.getElem?_cons_succ, List.getElem?_cons_zero, cond_true, cond_false, pSC_orp, pSC_andp, wrap_i64, Bool.not_true, Bool.not_false, l2]
  refine pV_eq (show _ = some (pV3 q n2 (.slice none 0 0)) from rfl) ?_
  refine pE_boxc hs10 [.pointer none, .int .i64 0, .slice none 0 0] rfl (fun b4 w11 hs11 _ _ => ?_)
  refine pU_p3 hs11 rfl (fun w12 hs12 _ => ?_)
  have hP : PairAt b3 p ((b3, ⟨pC3 p n1 (.slice none 0 0), (.t 51)⟩) :: (hp ++ [])) := ⟨n1, [], _, hp, [], hw1, ownS_nil _ _, rfl⟩
  have hQ : PairAt b4 q ((b4, ⟨pC3 q n2 (.slice none 0 0), (.t 51)⟩) :: (hq ++ [])) := ⟨n2, [], _, hq, [], hw2, ownS_nil _ _, rfl⟩
  have hs13 : St w0 no (((b3, ⟨pC3 p n1 (.slice none 0 0), (.t 51)⟩) :: (hp ++ [])) ++ (((b4, ⟨pC3 q n2 (.slice none 0 0), (.t 51)⟩) :: (hq ++ [])) ++ [])) w12 := hs12.re (fun _ => by simp only [cnt_nil, cnt_cons, cnt_append]; omega)
  generalize hEp : ((b3, ⟨pC3 p n1 (.slice none 0 0), (.t 51)⟩) :: (hp ++ [])) = hPP at hP hs13
  generalize hEq : ((b4, ⟨pC3 q n2 (.slice none 0 0), (.t 51)⟩) :: (hq ++ [])) = hQQ at hQ hs13
  clear hEp hEq hs1 hs2 hs3 hs4 hs5 hs6 hs7 hs8 hs9 hs10 hs11 hs12 hl5 hl8 l1 l2
  refine pLoop_up (I := fun i vs w' => ∃ (va vb : Value) (D E : List VL) (ha hd hb he h1 h2 : HP), vs = [va, vb, .int .i64 (i : Nat)] ∧ OwnLL va (D.map (·.1)) ha ∧ OwnAll R1 D hd ∧ OwnLL vb (E.map (·.1)) hb ∧ OwnAll R1 E he ∧ D.map (·.2) = E.map (·.2) ∧ (∀ x ∈ D, x.2.length ≤ 65536) ∧ D.length = i ∧ PairAt b3 p h1 ∧ PairAt b4 q h2 ∧ St w0 no (h1 ++ (h2 ++ (ha ++ (hd ++ (hb ++ he))))) w') script.length 0 (Nat.zero_le _) ⟨_, _, [], [], [], [], [], [], _, _, rfl, ownS_nil _ _, .none, ownS_nil _ _, .none, rfl, by simp, rfl, hP, hQ, hs13⟩ ?_
  clear hs13 hP hQ
  rintro i vs2 w13 hi ⟨va, vb, D, E, ha, hd, hb, he, h1, h2, rfl, hva, hD, hvb, hE, heq, hle, hDl, hP, hQ, hs13⟩ go hgo
  have hEl : E.length = i := by have := congrArg List.length heq; simp at this; omega
  try simp (disch := omega) only [pV_some, pE_some, pU_some, st_add, st_sub, st_mul, st_quo, st_rem, st_eql, st_neq, st_lss, st_leq, st_gtr, st_geq, st_seq, st_sneq, st_beq, st_bneq, st_not, st_neg, st_lenS, st_capS, st_lenT, st_fldA, st_conv, st_pick, st_ext0, st_ext1, st_ext2, st_ext3, st_nilS, st_nilP, st_nilF, st_nilE, st_nilN, st_none, st_some, st_true, st_false, nilC, add_lit, Nat.zero_add, Nat.add_zero, nth0, nth1, nth2, nth3, nth4, nth5, nth6, List.getElem?_cons_succ, List.getElem?_cons_zero, cond_true, cond_false, pSC_orp, pSC_andp, wrap_i64, Bool.not_true, Bool.not_false, hsc.len]
  refine pIf_of (fun hlt => ?_) (fun hlt => ?_)
  · have hlt : i < script.length := by simpa using hlt
    have hx := List.getElem?_eq_getElem hlt
    obtain ⟨ad, i1, c1⟩ := RdC.oat (hsc.gr hs13.tr) hx (x := i) rfl
    try simp (disch := omega) only [pV_some, pE_some, pU_some, st_add, st_sub, st_mul, st_quo, st_rem, st_eql, st_neq, st_lss, st_leq, st_gtr, st_geq, st_seq, st_sneq, st_beq, st_bneq, st_not, st_neg, st_lenS, st_capS, st_lenT, st_fldA, st_conv, st_pick, st_ext0, st_ext1, st_ext2, st_ext3, st_nilS, st_nilP, st_nilF, st_nilE, st_nilN, st_none, st_some, st_true, st_false, nilC, add_lit, Nat.zero_add, Nat.add_zero, nth0, nth1, nth2, nth3, nth4, nth5, nth6, List.getElem?_cons_succ, List.getElem?_cons_zero, cond_true, cond_false, pSC_orp, pSC_andp, wrap_i64, Bool.not_true, Bool.not_false, i1, c1.fld (j := 1) rfl]
    refine ⟨fun vs w' => ∃ l u lst hl hu h1' h2', vs = [l, u, .bool true] ∧ OwnF l lst hl ∧ OwnF u lst hu ∧ lst.length ≤ 65536 ∧ PairAt b3 p h1' ∧ PairAt b4 q h2' ∧ St w0 no (hl ++ (hu ++ (h1' ++ (h2' ++ (ha ++ (hd ++ (hb ++ he))))))) w', ?_, ?_⟩
    · refine pIf_of (fun _ => ?_) (fun _ => ?_)
      · refine pDraw_st hs13 (fun w14 hs14 ht14 => ?_)
        have c2 := c1.tr ht14 (fun h => h)
        obtain ⟨pv, hpv, hplay⟩ := play_pair so hQ (r := h1 ++ (ha ++ (hd ++ (hb ++ he)))) (hs14.re (fun _ => by simp only [cnt_nil, cnt_cons, cnt_append]; omega)) script[i]
        have hop : ldV true 4 w14 (.pointer (some ad)) = some (opV script[i]) := ldN c2 rfl
        try simp (disch := omega) only [pV_some, pE_some, pU_some, st_add, st_sub, st_mul, st_quo, st_rem, st_eql, st_neq, st_lss, st_leq, st_gtr, st_geq, st_seq, st_sneq, st_beq, st_bneq, st_not, st_neg, st_lenS, st_capS, st_lenT, st_fldA, st_conv, st_pick, st_ext0, st_ext1, st_ext2, st_ext3, st_nilS, st_nilP, st_nilF, st_nilE, st_nilN, st_none, st_some, st_true, st_false, nilC, add_lit, Nat.zero_add, Nat.add_zero, nth0, nth1, nth2, nth3, nth4, nth5, nth6, List.getElem?_cons_succ, List.getElem?_cons_zero, cond_true, cond_false, pSC_orp, pSC_andp, wrap_i64, Bool.not_true, Bool.not_false, hpv, i1, hop]
        refine hplay _ (fun h' l u lst hl hu w' a1 a2 a3 a4 a5 => ?_)
        exact ⟨l, u, lst, hl, hu, h1, h', rfl, a2, a3, a4, hP, a1, a5.re (fun _ => by simp only [cnt_nil, cnt_cons, cnt_append]; omega)⟩
      · refine pDraw_st hs13 (fun w14 hs14 ht14 => ?_)
        have c2 := c1.tr ht14 (fun h => h)
        obtain ⟨pv, hpv, hplay⟩ := play_pair so hP (r := h2 ++ (ha ++ (hd ++ (hb ++ he)))) (hs14.re (fun _ => by simp only [cnt_nil, cnt_cons, cnt_append]; omega)) script[i]
        have hop : ldV true 4 w14 (.pointer (some ad)) = some (opV script[i]) := ldN c2 rfl
        try simp (disch := omega) only [pV_some, pE_some, pU_some, st_add, st_sub, st_mul, st_quo, st_rem, st_eql, st_neq, st_lss, st_leq, st_gtr, st_geq, st_seq, st_sneq, st_beq, st_bneq, st_not, st_neg, st_lenS, st_capS, st_lenT, st_fldA, st_conv, st_pick, st_ext0, st_ext1, st_ext2, st_ext3, st_nilS, st_nilP, st_nilF, st_nilE, st_nilN, st_none, st_some, st_true, st_false, nilC, add_lit, Nat.zero_add, Nat.add_zero, nth0, nth1, nth2, nth3, nth4, nth5, nth6, List.getElem?_cons_succ, List.getElem?_cons_zero, cond_true, cond_false, pSC_orp, pSC_andp, wrap_i64, Bool.not_true, Bool.not_false, hpv, i1, hop]
        refine hplay _ (fun h' l u lst hl hu w' a1 a2 a3 a4 a5 => ?_)
        exact ⟨l, u, lst, hl, hu, h', h2, rfl, a2, a3, a4, a1, hQ, a5.re (fun _ => by simp only [cnt_nil, cnt_cons, cnt_append]; omega)⟩
    · rintro vs3 w14 ⟨l, u, lst, hl, hu, h1', h2', rfl, hol, hou, hll, hP', hQ', hs14⟩
      try simp (disch := omega) only [pV_some, pE_some, pU_some, st_add, st_sub, st_mul, st_quo, st_rem, st_eql, st_neq, st_lss, st_leq, st_gtr, st_geq, st_seq, st_sneq, st_beq, st_bneq, st_not, st_neg, st_lenS, st_capS, st_lenT, st_fldA, st_conv, st_pick, st_ext0, st_ext1, st_ext2, st_ext3, st_nilS, st_nilP, st_nilF, st_nilE, st_nilN, st_none, st_some, st_true, st_false, nilC, add_lit, Nat.zero_add, Nat.add_zero, nth0, nth1, nth2, nth3, nth4, nth5, nth6, List.getElem?_cons_succ, List.getElem?_cons_zero, cond_true, cond_false, pSC_orp, pSC_andp, wrap_i64, Bool.not_true, Bool.not_false]
      have hsl : ∀ {v : Value} {l : List (Int × Int)} {h : HP}, OwnF v l h → ∃ a n c, v = .slice a n c := fun h => by obtain ⟨a, c, h, _⟩ := h.slice; exact ⟨a, _, c, h⟩
      refine app_sl hva (h := hl ++ (hu ++ (h1' ++ (h2' ++ (hd ++ (hb ++ he)))))) (hs14.re (fun _ => by simp only [cnt_nil, cnt_cons, cnt_append]; omega)) (hsl hol) (by simp; omega) (fun va' ha' w15 hva' hs15 => ?_)
      refine app_sl hvb (h := ha' ++ (hl ++ (hu ++ (h1' ++ (h2' ++ (hd ++ he)))))) (hs15.re (fun _ => by simp only [cnt_nil, cnt_cons, cnt_append]; omega)) (hsl hou) (by simp; omega) (fun vb' hb' w16 hvb' hs16 => ?_)
      try simp (disch := omega) only [pV_some, pE_some, pU_some, st_add, st_sub, st_mul, st_quo, st_rem, st_eql, st_neq, st_lss, st_leq, st_gtr, st_geq, st_seq, st_sneq, st_beq, st_bneq, st_not, st_neg, st_lenS, st_capS, st_lenT, st_fldA, st_conv, st_pick, st_ext0, st_ext1, st_ext2, st_ext3, st_nilS, st_nilP, st_nilF, st_nilE, st_nilN, st_none, st_some, st_true, st_false, nilC, add_lit, Nat.zero_add, Nat.add_zero, nth0, nth1, nth2, nth3, nth4, nth5, nth6, List.getElem?_cons_succ, List.getElem?_cons_zero, cond_true, cond_false, pSC_orp, pSC_andp, wrap_i64, Bool.not_true, Bool.not_false]
      refine hgo _ _ hlt ⟨va', vb', D ++ [(l, lst)], E ++ [(u, lst)], ha', hl ++ hd, hb', hu ++ he, h1', h2', by simp, ?_, hD.snoc hol, ?_, hE.snoc hou, by simp [heq], ?_, by simp [hDl], hP', hQ', hs16.re (fun _ => by simp only [cnt_nil, cnt_cons, cnt_append]; omega)⟩
      · rw [List.map_append]; exact hva'
      · rw [List.map_append]; exact hvb'
      · intro x hx
        rcases List.mem_append.1 hx with hx | hx
        · exact hle x hx
        · simp at hx; subst hx; exact hll
  · refine F21_pc (held_spec hva hD hvb hE heq hle (by omega) (r := h1 ++ h2) (hs13.re (fun _ => by simp only [cnt_nil, cnt_cons, cnt_append]; omega)) (fun w14 hs14 => ?_))
    refine pSC_and_t rfl ?_
    obtain ⟨pv, hpv, hask⟩ := asked_pair hP hs14 0
    try simp (disch := omega) only [pV_some, pE_some, pU_some, st_add, st_sub, st_mul, st_quo, st_rem, st_eql, st_neq, st_lss, st_leq, st_gtr, st_geq, st_seq, st_sneq, st_beq, st_bneq, st_not, st_neg, st_lenS, st_capS, st_lenT, st_fldA, st_conv, st_pick, st_ext0, st_ext1, st_ext2, st_ext3, st_nilS, st_nilP, st_nilF, st_nilE, st_nilN, st_none, st_some, st_true, st_false, nilC, add_lit, Nat.zero_add, Nat.add_zero, nth0, nth1, nth2, nth3, nth4, nth5, nth6, List.getElem?_cons_succ, List.getElem?_cons_zero, cond_true, cond_false, pSC_orp, pSC_andp, wrap_i64, Bool.not_true, Bool.not_false, hpv]
    refine hask _ (fun w15 hs15 => ?_)
    refine pSC_and_t rfl ?_
    obtain ⟨pv2, hpv2, hask2⟩ := asked_pair hQ (r := h1) (hs15.re (fun _ => by simp only [cnt_nil, cnt_cons, cnt_append]; omega)) 0
    try simp (disch := omega) only [pV_some, pE_some, pU_some, st_add, st_sub, st_mul, st_quo, st_rem, st_eql, st_neq, st_lss, st_leq, st_gtr, st_geq, st_seq, st_sneq, st_beq, st_bneq, st_not, st_neg, st_lenS, st_capS, st_lenT, st_fldA, st_conv, st_pick, st_ext0, st_ext1, st_ext2, st_ext3, st_nilS, st_nilP, st_nilF, st_nilE, st_nilN, st_none, st_some, st_true, st_false, nilC, add_lit, Nat.zero_add, Nat.add_zero, nth0, nth1, nth2, nth3, nth4, nth5, nth6, List.getElem?_cons_succ, List.getElem?_cons_zero, cond_true, cond_false, pSC_orp, pSC_andp, wrap_i64, Bool.not_true, Bool.not_false, hpv2]
    refine hask2 _ (fun w16 hs16 => ?_)
    exact k w16 (hs16.re (fun _ => by simp only [cnt_nil, cnt_cons, cnt_append]; omega))
end Go.Proofs.Ytbbjljhbiaeadaa
