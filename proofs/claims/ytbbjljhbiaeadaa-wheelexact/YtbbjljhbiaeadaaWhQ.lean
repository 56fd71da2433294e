/- wheel: what is asked; one call on both. -/
import Derived.Test.YtbbjljhbiaeadaaWhO
set_option linter.unusedSimpArgs false
set_option linter.unusedVariables false
set_option maxRecDepth 100000
namespace Go.Proofs.Ytbbjljhbiaeadaa
open Go.Bk Go.RowKit

theorem keeps1 {b : Bool} {sz : Nat} {x u : Value} {w w' : World} (h : ldV b sz w x = some u) (h' : ldV b sz w' x = some u) : keeps [(b, sz, x)] w w' := ⟨⟨u, h, h'⟩, trivial⟩

theorem whenL_spec {w0 w : World} {M : Nat → Prop} {p now : Nat} {L : List (Int × Int)} {hp r : HP} (hw : WheelAt p now L hp) (hs : St w0 M (hp ++ r) w) (id : Int) {K : Value → World → Prop}
    (k : K (.tuple #[.int .i64 ((lkL id L).getD 0), .bool (lkL id L).isSome]) w) : F14 (.pointer (some ⟨p, 0, none⟩)) (.int .i64 id) w K := by
  obtain ⟨T, hwi, ha⟩ := hw
  rw [lkL_abs ha hwi.ok.nd] at k
  exact when_spec hwi hs id k
theorem nextH_spec {w0 w : World} {M : Nat → Prop} {p now : Nat} {L : List (Int × Int)} {hp r : HP} (hw : WheelAt p now L hp) (hs : St w0 M (hp ++ r) w) {K : Value → World → Prop}
    (k : ∀ w', St w0 M (hp ++ r) w' → K (.tuple #[.int .i64 ((L.head?.map (·.1)).getD 0), .bool L.head?.isSome]) w') : F12 (.pointer (some ⟨p, 0, none⟩)) w K := by
  refine nextL_spec hw hs (fun hn w1 hs1 => ?_) (fun e L' hn w1 hs1 => ?_)
  · subst hn; exact k w1 hs1
  · subst hn; exact k w1 hs1
theorem nextRH_spec {w : World} {v : Value} {L : List (Int × Int)} (hv : RdF w v L) (now : Int) {K : Value → World → Prop}
    (k : ∀ w', St w no [] w' → K (.tuple #[.int .i64 ((L.head?.map (·.1)).getD 0), .bool L.head?.isSome]) w') : F35 (wV now v) w K := by
  refine nextR_spec hv now (fun hn w1 hs1 => ?_) (fun e L' hn w1 hs1 => ?_)
  · subst hn; exact k w1 hs1
  · subst hn; exact k w1 hs1

abbrev pV3 (p : Nat) (now : Int) (v : Value) : Value := .agg #[.pointer (some ⟨p, 0, none⟩), .int .i64 now, v]
abbrev pC3 (p : Nat) (now : Int) (v : Value) : List Value := [.pointer (some ⟨p, 0, none⟩), .int .i64 now, v]
theorem asked_spec {w0 w : World} {M : Nat → Prop} {p now : Nat} {L : List (Int × Int)} {hp hv r : HP} {v : Value} (hw : WheelAt p now L hp) (ho : OwnF v L hv) (hs : St w0 M (hp ++ (hv ++ r)) w) (id : Int) {K : Value → World → Prop}
    (k : ∀ w', St w0 M (hp ++ (hv ++ r)) w' → K (.bool true) w') : F22 (pV3 p now v) (.int .i64 id) w K := by
  unfold F22
  obtain ⟨_, _, hLl, _⟩ := hw.ok
  obtain ⟨sa, sc, hve, _⟩ := ho.slice
  refine pE_boxc hs (pC3 p now v) (by subst hve; rfl) (fun b w1 hs1 _ _ => ?_)
  have facts : ∀ w', St w0 M (hp ++ (hv ++ ((b, ⟨pC3 p now v, (.t 51)⟩) :: r))) w' → ldV false 1 w' (.pointer (some ⟨b, 0, none⟩)) = some (.pointer (some ⟨p, 0, none⟩)) ∧ ldV true 2 w' (.pointer (some ⟨b, 1, none⟩)) = some (wV now v) ∧ ldV false 1 w' (.pointer (some ⟨b, 1, none⟩)) = some (.int .i64 now) ∧ ldV false 1 w' (.pointer (some ⟨b, 2, none⟩)) = some v ∧ RdF w' v L := by
    intro w' h
    have hB : Has w' b ⟨pC3 p now v, (.t 51)⟩ := h.has (b, ⟨pC3 p now v, (.t 51)⟩) (by simp)
    exact ⟨hB.ld 0 1, ldN (hB.cellsAt 1) rfl, hB.ld 1 1, hB.ld 2 1, ho.reads (h := hp ++ ((b, ⟨pC3 p now v, (.t 51)⟩) :: r)) (h.re (fun _ => by simp only [cnt_nil, cnt_cons, cnt_append]; omega))⟩
  have hs2 : St w0 M (hp ++ (hv ++ ((b, ⟨pC3 p now v, (.t 51)⟩) :: r))) w1 := hs1.re (fun _ => by simp only [cnt_nil, cnt_cons, cnt_append]; omega)
  clear hs1
  obtain ⟨g1, g2, g3, g4, g5⟩ := facts w1 hs2
  try simp (disch := omega) only [pV_some, pE_some, pU_some, st_add, st_sub, st_mul, st_quo, st_rem, st_eql, st_neq, st_lss, st_leq, st_gtr, st_geq, st_seq, st_sneq, st_beq, st_bneq, st_not, st_neg, st_lenS, st_capS, st_lenT, st_fldA, st_conv, st_pick, st_ext0, st_ext1, st_ext2, st_ext3, st_nilS, st_nilP, st_nilF, st_nilE, st_nilN, st_none, st_some, st_true, st_false, nilC, add_lit, Nat.zero_add, Nat.add_zero, nth0, nth1, nth2, nth3, nth4, nth5, nth6, List.getElem?_cons_succ, List.getElem?_cons_zero, cond_true, cond_false, pSC_orp, pSC_andp, wrap_i64, Bool.not_true, Bool.not_false, g1, g2]
  refine F14_pc (whenL_spec hw hs2 id ?_)
  try simp (disch := omega) only [pV_some, pE_some, pU_some, st_add, st_sub, st_mul, st_quo, st_rem, st_eql, st_neq, st_lss, st_leq, st_gtr, st_geq, st_seq, st_sneq, st_beq, st_bneq, st_not, st_neg, st_lenS, st_capS, st_lenT, st_fldA, st_conv, st_pick, st_ext0, st_ext1, st_ext2, st_ext3, st_nilS, st_nilP, st_nilF, st_nilE, st_nilN, st_none, st_some, st_true, st_false, nilC, add_lit, Nat.zero_add, Nat.add_zero, nth0, nth1, nth2, nth3, nth4, nth5, nth6, List.getElem?_cons_succ, List.getElem?_cons_zero, cond_true, cond_false, pSC_orp, pSC_andp, wrap_i64, Bool.not_true, Bool.not_false, g1, g2]
  refine F34_pc (whenR_spec g5 (by omega) now id (fun w2 hs3 => ?_))
  have hs3 : St w0 M (hp ++ (hv ++ ((b, ⟨pC3 p now v, (.t 51)⟩) :: r))) w2 := (hs2.call hs3).re (fun _ => by simp only [cnt_nil, cnt_cons, cnt_append]; omega)
  obtain ⟨g1, g2, g3, g4, g5⟩ := facts w2 hs3
  try simp (disch := omega) only [pV_some, pE_some, pU_some, st_add, st_sub, st_mul, st_quo, st_rem, st_eql, st_neq, st_lss, st_leq, st_gtr, st_geq, st_seq, st_sneq, st_beq, st_bneq, st_not, st_neg, st_lenS, st_capS, st_lenT, st_fldA, st_conv, st_pick, st_ext0, st_ext1, st_ext2, st_ext3, st_nilS, st_nilP, st_nilF, st_nilE, st_nilN, st_none, st_some, st_true, st_false, nilC, add_lit, Nat.zero_add, Nat.add_zero, nth0, nth1, nth2, nth3, nth4, nth5, nth6, List.getElem?_cons_succ, List.getElem?_cons_zero, cond_true, cond_false, pSC_orp, pSC_andp, wrap_i64, Bool.not_true, Bool.not_false, g1, g2]
  refine F12_pc (nextH_spec hw hs3 (fun w3 hs4 => ?_))
  obtain ⟨g1, g2, g3, g4, g5⟩ := facts w3 hs4
  try simp (disch := omega) only [pV_some, pE_some, pU_some, st_add, st_sub, st_mul, st_quo, st_rem, st_eql, st_neq, st_lss, st_leq, st_gtr, st_geq, st_seq, st_sneq, st_beq, st_bneq, st_not, st_neg, st_lenS, st_capS, st_lenT, st_fldA, st_conv, st_pick, st_ext0, st_ext1, st_ext2, st_ext3, st_nilS, st_nilP, st_nilF, st_nilE, st_nilN, st_none, st_some, st_true, st_false, nilC, add_lit, Nat.zero_add, Nat.add_zero, nth0, nth1, nth2, nth3, nth4, nth5, nth6, List.getElem?_cons_succ, List.getElem?_cons_zero, cond_true, cond_false, pSC_orp, pSC_andp, wrap_i64, Bool.not_true, Bool.not_false, g1, g2]
  refine F35_pc (nextRH_spec g5 now (fun w4 hs5 => ?_))
  have hs5 : St w0 M (hp ++ (hv ++ ((b, ⟨pC3 p now v, (.t 51)⟩) :: r))) w4 := (hs4.call hs5).re (fun _ => by simp only [cnt_nil, cnt_cons, cnt_append]; omega)
  try simp (disch := omega) only [pV_some, pE_some, pU_some, st_add, st_sub, st_mul, st_quo, st_rem, st_eql, st_neq, st_lss, st_leq, st_gtr, st_geq, st_seq, st_sneq, st_beq, st_bneq, st_not, st_neg, st_lenS, st_capS, st_lenT, st_fldA, st_conv, st_pick, st_ext0, st_ext1, st_ext2, st_ext3, st_nilS, st_nilP, st_nilF, st_nilE, st_nilN, st_none, st_some, st_true, st_false, nilC, add_lit, Nat.zero_add, Nat.add_zero, nth0, nth1, nth2, nth3, nth4, nth5, nth6, List.getElem?_cons_succ, List.getElem?_cons_zero, cond_true, cond_false, pSC_orp, pSC_andp, wrap_i64, Bool.not_true, Bool.not_false]
  refine pDraw_st hs5 (fun w5 hs6 _ => ?_)
  obtain ⟨g1, g2, g3, g4, g5⟩ := facts w5 hs6
  try simp (disch := omega) only [pV_some, pE_some, pU_some, st_add, st_sub, st_mul, st_quo, st_rem, st_eql, st_neq, st_lss, st_leq, st_gtr, st_geq, st_seq, st_sneq, st_beq, st_bneq, st_not, st_neg, st_lenS, st_capS, st_lenT, st_fldA, st_conv, st_pick, st_ext0, st_ext1, st_ext2, st_ext3, st_nilS, st_nilP, st_nilF, st_nilE, st_nilN, st_none, st_some, st_true, st_false, nilC, add_lit, Nat.zero_add, Nat.add_zero, nth0, nth1, nth2, nth3, nth4, nth5, nth6, List.getElem?_cons_succ, List.getElem?_cons_zero, cond_true, cond_false, pSC_orp, pSC_andp, wrap_i64, Bool.not_true, Bool.not_false, eq_self, decide_true, beq_self_eq_true, Bool.and_self, g1, g2, g3, g4]
  refine pSC_and_t rfl ?_
  unfold pKept
  refine F10_pc (nowL_spec hw hs6 ?_)
  refine ⟨keeps1 g3 g3, ?_⟩
  try simp (disch := omega) only [pV_some, pE_some, pU_some, st_add, st_sub, st_mul, st_quo, st_rem, st_eql, st_neq, st_lss, st_leq, st_gtr, st_geq, st_seq, st_sneq, st_beq, st_bneq, st_not, st_neg, st_lenS, st_capS, st_lenT, st_fldA, st_conv, st_pick, st_ext0, st_ext1, st_ext2, st_ext3, st_nilS, st_nilP, st_nilF, st_nilE, st_nilN, st_none, st_some, st_true, st_false, nilC, add_lit, Nat.zero_add, Nat.add_zero, nth0, nth1, nth2, nth3, nth4, nth5, nth6, List.getElem?_cons_succ, List.getElem?_cons_zero, cond_true, cond_false, pSC_orp, pSC_andp, wrap_i64, Bool.not_true, Bool.not_false, eq_self, decide_true, g1, g2, g3, g4]
  refine pSC_and_t rfl ?_
  refine F9_pc (lenL_spec hw hs6 ?_)
  refine ⟨keeps1 g4 g4, ?_⟩
  try simp (disch := omega) only [pV_some, pE_some, pU_some, st_add, st_sub, st_mul, st_quo, st_rem, st_eql, st_neq, st_lss, st_leq, st_gtr, st_geq, st_seq, st_sneq, st_beq, st_bneq, st_not, st_neg, st_lenS, st_capS, st_lenT, st_fldA, st_conv, st_pick, st_ext0, st_ext1, st_ext2, st_ext3, st_nilS, st_nilP, st_nilF, st_nilE, st_nilN, st_none, st_some, st_true, st_false, nilC, add_lit, Nat.zero_add, Nat.add_zero, nth0, nth1, nth2, nth3, nth4, nth5, nth6, List.getElem?_cons_succ, List.getElem?_cons_zero, cond_true, cond_false, pSC_orp, pSC_andp, wrap_i64, Bool.not_true, Bool.not_false, eq_self, decide_true, ho.len]
  exact k w5 (hs6.re (fun _ => by simp only [cnt_nil, cnt_cons, cnt_append]; omega))

/-- Storing a pair's wheel. -/
theorem pU_p1 {w0 w : World} {M : Nat → Prop} {h : HP} {b p : Nat} {now now' : Int} {v v' : Value} {ty : TypeId} (hs : St w0 M ((b, ⟨pC3 p now v, ty⟩) :: h) w) (hv : oneC v' = true) {K : World → Prop}
    (k : ∀ w', St w0 M ((b, ⟨pC3 p now' v', ty⟩) :: h) w' → K w') : pU (stE 2 (.pointer (some ⟨b, 1, none⟩)) (wV now' v') w) K := by
  have e : (wV now' v').cells.toList = [.int .i64 now', v'] := by simp [Value.cells]
  refine pU_st (o := 1) (sz := 2) (v := wV now' v') hs (pC3 p now' v') (by simp [Value.cells]) (by simp) (by rw [e]; intro u hu; simp at hu; rcases hu with rfl | rfl; rfl; exact hv) (by rw [e]; rfl) (fun w2 hs2 _ => k w2 hs2)
theorem pU_p3 {w0 w : World} {M : Nat → Prop} {h : HP} {b p : Nat} {c0 c1 c2 : Value} {now : Int} {v : Value} {ty : TypeId} (hs : St w0 M ((b, ⟨[c0, c1, c2], ty⟩) :: h) w) (hv : oneC v = true) {K : World → Prop}
    (k : ∀ w', St w0 M ((b, ⟨pC3 p now v, ty⟩) :: h) w' → ldV true 3 w' (.pointer (some ⟨b, 0, none⟩)) = some (pV3 p now v) → K w') : pU (stE 3 (.pointer (some ⟨b, 0, none⟩)) (pV3 p now v) w) K := by
  have e : (pV3 p now v).cells.toList = pC3 p now v := by simp [Value.cells]
  refine pU_st (o := 0) (sz := 3) (v := pV3 p now v) hs (pC3 p now v) (by simp [Value.cells]) (by simp) (by rw [e]; intro u hu; simp at hu; rcases hu with rfl | rfl | rfl; rfl; rfl; exact hv) (by rw [e]; rfl) (fun w2 hs2 _ => k w2 hs2 (hs2.top.ldw rfl))

/-- One call. -/
structure Op where
  kind : Int
  second : Bool
  id : Int
  tick : Int
abbrev opC (o : Op) : List Value := [.int .i64 o.kind, .bool o.second, .int .i64 o.id, .int .i64 o.tick]
abbrev opV (o : Op) : Value := .agg #[.int .i64 o.kind, .bool o.second, .int .i64 o.id, .int .i64 o.tick]

theorem play_spec (so : SortOK) {w0 w : World} {M : Nat → Prop} {p now : Nat} {L : List (Int × Int)} {hp hv r : HP} {v : Value} (hw : WheelAt p now L hp) (ho : OwnF v L hv) (hs : St w0 M (hp ++ (hv ++ r)) w) (o : Op) {K : Value → World → Prop}
    (k : ∀ (now' : Nat) L' v' hp' hv' l u lst hl hu w', WheelAt p now' L' hp' → OwnF v' L' hv' → OwnF l lst hl → OwnF u lst hu → lst.length ≤ 65536 → St w0 M (hp' ++ (hv' ++ (hl ++ (hu ++ r)))) w' → K (.tuple #[pV3 p now' v', l, u, .bool true]) w') : F20 (pV3 p now v) (opV o) w K := by
  unfold F20
  obtain ⟨_, _, hLl, _⟩ := hw.ok
  obtain ⟨sa, sc, hve, _⟩ := ho.slice
  refine pE_boxc hs (pC3 p now v) (by subst hve; rfl) (fun b w1 hs1 _ _ => ?_)
  refine pE_boxc hs1 (opC o) rfl (fun b2 w2 hs2 _ _ => ?_)
  refine pE_boxc hs2 [.pointer none, .int .i64 0, .slice none 0 0] rfl (fun b3 w3 hs3 _ _ => ?_)
  clear hs hs1 hs2
  have facts : ∀ (n : Int) (x : Value) (g : HP) (w' : World), St w0 M ((b, ⟨pC3 p n x, (.t 51)⟩) :: (b2, ⟨opC o, (.t 54)⟩) :: g) w' → ldV false 1 w' (.pointer (some ⟨b, 0, none⟩)) = some (.pointer (some ⟨p, 0, none⟩)) ∧ ldV true 2 w' (.pointer (some ⟨b, 1, none⟩)) = some (wV n x) ∧ ldV true 3 w' (.pointer (some ⟨b, 0, none⟩)) = some (pV3 p n x) ∧ ldV false 1 w' (.pointer (some ⟨b2, 0, none⟩)) = some (.int .i64 o.kind) ∧ ldV false 1 w' (.pointer (some ⟨b2, 2, none⟩)) = some (.int .i64 o.id) ∧ ldV false 1 w' (.pointer (some ⟨b2, 3, none⟩)) = some (.int .i64 o.tick) ∧ ldV false 1 w' (.pointer (some ⟨b, 1, none⟩)) = some (.int .i64 n) := by
    intro n x g w' h
    have hB := h.top
    have hC : Has w' b2 ⟨opC o, (.t 54)⟩ := h.has (b2, ⟨opC o, (.t 54)⟩) (by simp)
    exact ⟨hB.ld 0 1, ldN (hB.cellsAt 1) rfl, hB.ldw rfl, hC.ld 0 1, hC.ld 2 1, hC.ld 3 1, hB.ld 1 1⟩
  -- all pieces stand
  have fin : ∀ (n : Nat) (L' : List (Int × Int)) (x : Value) (hp' hx : HP) (l u : Value) (lst : List (Int × Int)) (hl hu : HP) (w' : World), WheelAt p n L' hp' → OwnF x L' hx → OwnF l lst hl → OwnF u lst hu → lst.length ≤ 65536 →
      St w0 M (hp' ++ (hx ++ ((b3, ⟨[.pointer none, .int .i64 0, .slice none 0 0], (.t 51)⟩) :: (hl ++ (hu ++ r))))) w' →
      pU (stE 3 (.pointer (some ⟨b3, 0, none⟩)) (pV3 p n x) w') fun w => pV (ldV true 3 w (.pointer (some ⟨b3, 0, none⟩))) fun tr => K (.tuple #[tr, l, u, .bool true]) w := by
    intro n L' x hp' hx l u lst hl hu w' h1 h2 h3 h4 h5 h6
    refine pU_p3 (b := b3) (c0 := .pointer none) (c1 := .int .i64 0) (c2 := .slice none 0 0) (ty := 51) (h := hp' ++ (hx ++ (hl ++ (hu ++ r)))) (h6.re (fun _ => by simp only [cnt_nil, cnt_cons, cnt_append]; omega)) h2.one (fun w7 hs7 hl7 => ?_)
    try simp (disch := omega) only [pV_some, pE_some, pU_some, st_add, st_sub, st_mul, st_quo, st_rem, st_eql, st_neq, st_lss, st_leq, st_gtr, st_geq, st_seq, st_sneq, st_beq, st_bneq, st_not, st_neg, st_lenS, st_capS, st_lenT, st_fldA, st_conv, st_pick, st_ext0, st_ext1, st_ext2, st_ext3, st_nilS, st_nilP, st_nilF, st_nilE, st_nilN, st_none, st_some, st_true, st_false, nilC, add_lit, Nat.zero_add, Nat.add_zero, nth0, nth1, nth2, nth3, nth4, nth5, nth6, List.getElem?_cons_succ, List.getElem?_cons_zero, cond_true, cond_false, pSC_orp, pSC_andp, wrap_i64, Bool.not_true, Bool.not_false, hl7]
    exact k n L' x hp' hx l u lst hl hu w7 h1 h2 h3 h4 h5 (hs7.re (fun _ => by simp only [cnt_nil, cnt_cons, cnt_append]; omega))
  have ask : ∀ (n : Nat) (L' : List (Int × Int)) (x : Value) (hp' hx g : HP) (w' : World), WheelAt p n L' hp' → OwnF x L' hx → St w0 M (hp' ++ (hx ++ ((b, ⟨pC3 p n x, (.t 51)⟩) :: (b2, ⟨opC o, (.t 54)⟩) :: g))) w' → ∀ R : Value → World → Prop,
      (∀ w'', St w0 M (hp' ++ (hx ++ ((b, ⟨pC3 p n x, (.t 51)⟩) :: (b2, ⟨opC o, (.t 54)⟩) :: g))) w'' → R (.bool true) w'') → pKept [(true, 3, .pointer (some ⟨b, 0, none⟩))] w' (fun J => pCall Try.prog 22 [pV3 p n x, .int .i64 o.id] w' fun t w => J t w) R := by
    intro n L' x hp' hx g w' h1 h2 h3 R hR
    unfold pKept
    refine F22_pc (asked_spec h1 h2 h3 o.id (fun w'' hs'' => ?_))
    exact ⟨keeps1 (facts n x (hp' ++ (hx ++ g)) w' (h3.re (fun _ => by simp only [cnt_nil, cnt_cons, cnt_append]; omega))).2.2.1 (facts n x (hp' ++ (hx ++ g)) w'' (hs''.re (fun _ => by simp only [cnt_nil, cnt_cons, cnt_append]; omega))).2.2.1, hR w'' hs''⟩
  obtain ⟨g1, g2, g3, g4, g5, g6, g7⟩ := facts now v ((b3, ⟨[.pointer none, .int .i64 0, .slice none 0 0], (.t 51)⟩) :: (hp ++ (hv ++ r))) w3 (hs3.re (fun _ => by simp only [cnt_nil, cnt_cons, cnt_append]; omega))
  try simp (disch := omega) only [pV_some, pE_some, pU_some, st_add, st_sub, st_mul, st_quo, st_rem, st_eql, st_neq, st_lss, st_leq, st_gtr, st_geq, st_seq, st_sneq, st_beq, st_bneq, st_not, st_neg, st_lenS, st_capS, st_lenT, st_fldA, st_conv, st_pick, st_ext0, st_ext1, st_ext2, st_ext3, st_nilS, st_nilP, st_nilF, st_nilE, st_nilN, st_none, st_some, st_true, st_false, nilC, add_lit, Nat.zero_add, Nat.add_zero, nth0, nth1, nth2, nth3, nth4, nth5, nth6, List.getElem?_cons_succ, List.getElem?_cons_zero, cond_true, cond_false, pSC_orp, pSC_andp, wrap_i64, Bool.not_true, Bool.not_false, g1, g2, g3, g4, g5, g6, g7]
  refine pIf_of (fun hk => ?_) (fun hk => ?_)
  · -- Arm
    obtain ⟨T, hwi, ha⟩ := hw
    have hnd := hwi.ok.nd
    refine F15_pc (arm_spec hwi (r := hv ++ ((b, ⟨pC3 p now v, (.t 51)⟩) :: (b2, ⟨opC o, (.t 54)⟩) :: (b3, ⟨[.pointer none, .int .i64 0, .slice none 0 0], (.t 51)⟩) :: r)) (hs3.re (fun _ => by simp only [cnt_nil, cnt_cons, cnt_append]; omega)) o.id o.tick (fun hno => ?_) (fun hyes hp4 w4 hw4 hs4 => ?_))
    · try simp (disch := omega) only [pV_some, pE_some, pU_some, st_add, st_sub, st_mul, st_quo, st_rem, st_eql, st_neq, st_lss, st_leq, st_gtr, st_geq, st_seq, st_sneq, st_beq, st_bneq, st_not, st_neg, st_lenS, st_capS, st_lenT, st_fldA, st_conv, st_pick, st_ext0, st_ext1, st_ext2, st_ext3, st_nilS, st_nilP, st_nilF, st_nilE, st_nilN, st_none, st_some, st_true, st_false, nilC, add_lit, Nat.zero_add, Nat.add_zero, nth0, nth1, nth2, nth3, nth4, nth5, nth6, List.getElem?_cons_succ, List.getElem?_cons_zero, cond_true, cond_false, pSC_orp, pSC_andp, wrap_i64, Bool.not_true, Bool.not_false, g1, g2, g3, g4, g5, g6, g7]
      refine F30_pc (armR_spec (ho.reads (h := hp ++ ((b, ⟨pC3 p now v, (.t 51)⟩) :: (b2, ⟨opC o, (.t 54)⟩) :: (b3, ⟨[.pointer none, .int .i64 0, .slice none 0 0], (.t 51)⟩) :: r)) (hs3.re (fun _ => by simp only [cnt_nil, cnt_cons, cnt_append]; omega))) hLl now o.id o.tick (fun _ w5 hs5 => ?_) (fun h => absurd h hno))
      have hs5 := hs3.call hs5
      try simp (disch := omega) only [pV_some, pE_some, pU_some, st_add, st_sub, st_mul, st_quo, st_rem, st_eql, st_neq, st_lss, st_leq, st_gtr, st_geq, st_seq, st_sneq, st_beq, st_bneq, st_not, st_neg, st_lenS, st_capS, st_lenT, st_fldA, st_conv, st_pick, st_ext0, st_ext1, st_ext2, st_ext3, st_nilS, st_nilP, st_nilF, st_nilE, st_nilN, st_none, st_some, st_true, st_false, nilC, add_lit, Nat.zero_add, Nat.add_zero, nth0, nth1, nth2, nth3, nth4, nth5, nth6, List.getElem?_cons_succ, List.getElem?_cons_zero, cond_true, cond_false, pSC_orp, pSC_andp, wrap_i64, Bool.not_true, Bool.not_false]
      refine pU_p1 (p := p) (now := now) (v := v) (ty := 51) (h := (b2, ⟨opC o, (.t 54)⟩) :: (b3, ⟨[.pointer none, .int .i64 0, .slice none 0 0], (.t 51)⟩) :: (hp ++ (hv ++ r))) (hs5.re (fun _ => by simp only [cnt_nil, cnt_cons, cnt_append]; omega)) ho.one (fun w6 hs6 => ?_)
      refine pDraw_st hs6 (fun w7 hs7 _ => ?_)
      obtain ⟨g1, g2, g3, g4, g5, g6, g7⟩ := facts now v ((b3, ⟨[.pointer none, .int .i64 0, .slice none 0 0], (.t 51)⟩) :: (hp ++ (hv ++ r))) w7 (hs7.re (fun _ => by simp only [cnt_nil, cnt_cons, cnt_append]; omega))
      try simp (disch := omega) only [pV_some, pE_some, pU_some, st_add, st_sub, st_mul, st_quo, st_rem, st_eql, st_neq, st_lss, st_leq, st_gtr, st_geq, st_seq, st_sneq, st_beq, st_bneq, st_not, st_neg, st_lenS, st_capS, st_lenT, st_fldA, st_conv, st_pick, st_ext0, st_ext1, st_ext2, st_ext3, st_nilS, st_nilP, st_nilF, st_nilE, st_nilN, st_none, st_some, st_true, st_false, nilC, add_lit, Nat.zero_add, Nat.add_zero, nth0, nth1, nth2, nth3, nth4, nth5, nth6, List.getElem?_cons_succ, List.getElem?_cons_zero, cond_true, cond_false, pSC_orp, pSC_andp, wrap_i64, Bool.not_true, Bool.not_false, g3, g5, eq_self, decide_true]
      refine pSC_and_t rfl ?_
      refine ask now L v hp hv ((b3, ⟨[.pointer none, .int .i64 0, .slice none 0 0], (.t 51)⟩) :: r) w7 ⟨T, hwi, ha⟩ ho (hs7.re (fun _ => by simp only [cnt_nil, cnt_cons, cnt_append]; omega)) _ (fun w8 hs8 => ?_)
      exact fin now L v hp hv _ _ [] [] [] w8 ⟨T, hwi, ha⟩ ho (ownS_nil _ _) (ownS_nil _ _) (by simp) (hs8.re (fun _ => by simp only [cnt_nil, cnt_cons, cnt_append]; omega))
    · obtain ⟨g1, g2, g3, g4, g5, g6, g7⟩ := facts now v ((b3, ⟨[.pointer none, .int .i64 0, .slice none 0 0], (.t 51)⟩) :: (hp4 ++ (hv ++ r))) w4 (hs4.re (fun _ => by simp only [cnt_nil, cnt_cons, cnt_append]; omega))
      try simp (disch := omega) only [pV_some, pE_some, pU_some, st_add, st_sub, st_mul, st_quo, st_rem, st_eql, st_neq, st_lss, st_leq, st_gtr, st_geq, st_seq, st_sneq, st_beq, st_bneq, st_not, st_neg, st_lenS, st_capS, st_lenT, st_fldA, st_conv, st_pick, st_ext0, st_ext1, st_ext2, st_ext3, st_nilS, st_nilP, st_nilF, st_nilE, st_nilN, st_none, st_some, st_true, st_false, nilC, add_lit, Nat.zero_add, Nat.add_zero, nth0, nth1, nth2, nth3, nth4, nth5, nth6, List.getElem?_cons_succ, List.getElem?_cons_zero, cond_true, cond_false, pSC_orp, pSC_andp, wrap_i64, Bool.not_true, Bool.not_false, g1, g2, g3, g4, g5, g6, g7]
      refine F30_pc (armR_spec (ho.reads (h := hp4 ++ ((b, ⟨pC3 p now v, (.t 51)⟩) :: (b2, ⟨opC o, (.t 54)⟩) :: (b3, ⟨[.pointer none, .int .i64 0, .slice none 0 0], (.t 51)⟩) :: r)) (hs4.re (fun _ => by simp only [cnt_nil, cnt_cons, cnt_append]; omega))) hLl now o.id o.tick (fun h => absurd hyes h) (fun _ v5 hp5 w5 ho5 hs5 => ?_))
      have hs5 := hs4.call hs5
      try simp (disch := omega) only [pV_some, pE_some, pU_some, st_add, st_sub, st_mul, st_quo, st_rem, st_eql, st_neq, st_lss, st_leq, st_gtr, st_geq, st_seq, st_sneq, st_beq, st_bneq, st_not, st_neg, st_lenS, st_capS, st_lenT, st_fldA, st_conv, st_pick, st_ext0, st_ext1, st_ext2, st_ext3, st_nilS, st_nilP, st_nilF, st_nilE, st_nilN, st_none, st_some, st_true, st_false, nilC, add_lit, Nat.zero_add, Nat.add_zero, nth0, nth1, nth2, nth3, nth4, nth5, nth6, List.getElem?_cons_succ, List.getElem?_cons_zero, cond_true, cond_false, pSC_orp, pSC_andp, wrap_i64, Bool.not_true, Bool.not_false]
      refine pU_p1 (p := p) (now := now) (v := v) (ty := 51) (h := (b2, ⟨opC o, (.t 54)⟩) :: (b3, ⟨[.pointer none, .int .i64 0, .slice none 0 0], (.t 51)⟩) :: (hp4 ++ (hp5 ++ r))) (hs5.re (fun _ => by simp only [cnt_nil, cnt_cons, cnt_append]; omega)) ho5.one (fun w6 hs6 => ?_)
      refine pDraw_st hs6 (fun w7 hs7 _ => ?_)
      obtain ⟨g1, g2, g3, g4, g5, g6, g7⟩ := facts now v5 ((b3, ⟨[.pointer none, .int .i64 0, .slice none 0 0], (.t 51)⟩) :: (hp4 ++ (hp5 ++ r))) w7 (hs7.re (fun _ => by simp only [cnt_nil, cnt_cons, cnt_append]; omega))
      try simp (disch := omega) only [pV_some, pE_some, pU_some, st_add, st_sub, st_mul, st_quo, st_rem, st_eql, st_neq, st_lss, st_leq, st_gtr, st_geq, st_seq, st_sneq, st_beq, st_bneq, st_not, st_neg, st_lenS, st_capS, st_lenT, st_fldA, st_conv, st_pick, st_ext0, st_ext1, st_ext2, st_ext3, st_nilS, st_nilP, st_nilF, st_nilE, st_nilN, st_none, st_some, st_true, st_false, nilC, add_lit, Nat.zero_add, Nat.add_zero, nth0, nth1, nth2, nth3, nth4, nth5, nth6, List.getElem?_cons_succ, List.getElem?_cons_zero, cond_true, cond_false, pSC_orp, pSC_andp, wrap_i64, Bool.not_true, Bool.not_false, g3, g5, eq_self, decide_true]
      refine pSC_and_t rfl ?_
      have hwn : WheelAt p now (insL (o.tick, o.id) (remL o.id L)) hp4 := ⟨_, hw4, (ha.rem hnd o.id).ins (by rw [mget_del hnd]; simp)⟩
      refine ask now _ v5 hp4 hp5 ((b3, ⟨[.pointer none, .int .i64 0, .slice none 0 0], (.t 51)⟩) :: r) w7 hwn ho5 (hs7.re (fun _ => by simp only [cnt_nil, cnt_cons, cnt_append]; omega)) _ (fun w8 hs8 => ?_)
      exact fin now _ v5 hp4 hp5 _ _ [] [] [] w8 hwn ho5 (ownS_nil _ _) (ownS_nil _ _) (by simp) (hs8.re (fun _ => by simp only [cnt_nil, cnt_cons, cnt_append]; omega))
  try simp (disch := omega) only [pV_some, pE_some, pU_some, st_add, st_sub, st_mul, st_quo, st_rem, st_eql, st_neq, st_lss, st_leq, st_gtr, st_geq, st_seq, st_sneq, st_beq, st_bneq, st_not, st_neg, st_lenS, st_capS, st_lenT, st_fldA, st_conv, st_pick, st_ext0, st_ext1, st_ext2, st_ext3, st_nilS, st_nilP, st_nilF, st_nilE, st_nilN, st_none, st_some, st_true, st_false, nilC, add_lit, Nat.zero_add, Nat.add_zero, nth0, nth1, nth2, nth3, nth4, nth5, nth6, List.getElem?_cons_succ, List.getElem?_cons_zero, cond_true, cond_false, pSC_orp, pSC_andp, wrap_i64, Bool.not_true, Bool.not_false]
  refine pIf_of (fun hk2 => ?_) (fun hk2 => ?_)
  · -- Cancel
    obtain ⟨T, hwi, ha⟩ := hw
    have hnd := hwi.ok.nd
    refine F17_pc (cancel_spec hwi (r := hv ++ ((b, ⟨pC3 p now v, (.t 51)⟩) :: (b2, ⟨opC o, (.t 54)⟩) :: (b3, ⟨[.pointer none, .int .i64 0, .slice none 0 0], (.t 51)⟩) :: r)) (hs3.re (fun _ => by simp only [cnt_nil, cnt_cons, cnt_append]; omega)) o.id (fun hp4 w4 hw4 hs4 => ?_))
    obtain ⟨g1, g2, g3, g4, g5, g6, g7⟩ := facts now v ((b3, ⟨[.pointer none, .int .i64 0, .slice none 0 0], (.t 51)⟩) :: (hp4 ++ (hv ++ r))) w4 (hs4.re (fun _ => by simp only [cnt_nil, cnt_cons, cnt_append]; omega))
    try simp (disch := omega) only [pV_some, pE_some, pU_some, st_add, st_sub, st_mul, st_quo, st_rem, st_eql, st_neq, st_lss, st_leq, st_gtr, st_geq, st_seq, st_sneq, st_beq, st_bneq, st_not, st_neg, st_lenS, st_capS, st_lenT, st_fldA, st_conv, st_pick, st_ext0, st_ext1, st_ext2, st_ext3, st_nilS, st_nilP, st_nilF, st_nilE, st_nilN, st_none, st_some, st_true, st_false, nilC, add_lit, Nat.zero_add, Nat.add_zero, nth0, nth1, nth2, nth3, nth4, nth5, nth6, List.getElem?_cons_succ, List.getElem?_cons_zero, cond_true, cond_false, pSC_orp, pSC_andp, wrap_i64, Bool.not_true, Bool.not_false, g1, g2, g3, g4, g5, g6, g7]
    refine F31_pc (cancelR_spec (ho.reads (h := hp4 ++ ((b, ⟨pC3 p now v, (.t 51)⟩) :: (b2, ⟨opC o, (.t 54)⟩) :: (b3, ⟨[.pointer none, .int .i64 0, .slice none 0 0], (.t 51)⟩) :: r)) (hs4.re (fun _ => by simp only [cnt_nil, cnt_cons, cnt_append]; omega))) hLl now o.id (fun v5 hp5 w5 ho5 hs5 => ?_))
    have hs5 := hs4.call hs5
    try simp (disch := omega) only [pV_some, pE_some, pU_some, st_add, st_sub, st_mul, st_quo, st_rem, st_eql, st_neq, st_lss, st_leq, st_gtr, st_geq, st_seq, st_sneq, st_beq, st_bneq, st_not, st_neg, st_lenS, st_capS, st_lenT, st_fldA, st_conv, st_pick, st_ext0, st_ext1, st_ext2, st_ext3, st_nilS, st_nilP, st_nilF, st_nilE, st_nilN, st_none, st_some, st_true, st_false, nilC, add_lit, Nat.zero_add, Nat.add_zero, nth0, nth1, nth2, nth3, nth4, nth5, nth6, List.getElem?_cons_succ, List.getElem?_cons_zero, cond_true, cond_false, pSC_orp, pSC_andp, wrap_i64, Bool.not_true, Bool.not_false]
    refine pE_boxc hs5 [.int .i64 0, .slice none 0 0] rfl (fun b4 w6 hs6 _ _ => ?_)
    refine pU_wV hs6 ho5.one (fun w7 hs7 hl7 => ?_)
    try simp (disch := omega) only [pV_some, pE_some, pU_some, st_add, st_sub, st_mul, st_quo, st_rem, st_eql, st_neq, st_lss, st_leq, st_gtr, st_geq, st_seq, st_sneq, st_beq, st_bneq, st_not, st_neg, st_lenS, st_capS, st_lenT, st_fldA, st_conv, st_pick, st_ext0, st_ext1, st_ext2, st_ext3, st_nilS, st_nilP, st_nilF, st_nilE, st_nilN, st_none, st_some, st_true, st_false, nilC, add_lit, Nat.zero_add, Nat.add_zero, nth0, nth1, nth2, nth3, nth4, nth5, nth6, List.getElem?_cons_succ, List.getElem?_cons_zero, cond_true, cond_false, pSC_orp, pSC_andp, wrap_i64, Bool.not_true, Bool.not_false, hl7]
    refine pU_p1 (p := p) (now := now) (v := v) (ty := 51) (h := (b2, ⟨opC o, (.t 54)⟩) :: (b3, ⟨[.pointer none, .int .i64 0, .slice none 0 0], (.t 51)⟩) :: (hp4 ++ (hp5 ++ r))) (hs7.re (fun _ => by simp only [cnt_nil, cnt_cons, cnt_append]; omega)) ho5.one (fun w8 hs8 => ?_)
    refine pDraw_st hs8 (fun w9 hs9 _ => ?_)
    obtain ⟨g1, g2, g3, g4, g5, g6, g7⟩ := facts now v5 ((b3, ⟨[.pointer none, .int .i64 0, .slice none 0 0], (.t 51)⟩) :: (hp4 ++ (hp5 ++ r))) w9 (hs9.re (fun _ => by simp only [cnt_nil, cnt_cons, cnt_append]; omega))
    try simp (disch := omega) only [pV_some, pE_some, pU_some, st_add, st_sub, st_mul, st_quo, st_rem, st_eql, st_neq, st_lss, st_leq, st_gtr, st_geq, st_seq, st_sneq, st_beq, st_bneq, st_not, st_neg, st_lenS, st_capS, st_lenT, st_fldA, st_conv, st_pick, st_ext0, st_ext1, st_ext2, st_ext3, st_nilS, st_nilP, st_nilF, st_nilE, st_nilN, st_none, st_some, st_true, st_false, nilC, add_lit, Nat.zero_add, Nat.add_zero, nth0, nth1, nth2, nth3, nth4, nth5, nth6, List.getElem?_cons_succ, List.getElem?_cons_zero, cond_true, cond_false, pSC_orp, pSC_andp, wrap_i64, Bool.not_true, Bool.not_false, g3, g5, lkL_abs ha hnd, beq_self_eq_true]
    refine pSC_and_t rfl ?_
    have hwn : WheelAt p now (remL o.id L) hp4 := ⟨_, hw4, ha.rem hnd o.id⟩
    refine ask now _ v5 hp4 hp5 ((b3, ⟨[.pointer none, .int .i64 0, .slice none 0 0], (.t 51)⟩) :: r) w9 hwn ho5 (hs9.re (fun _ => by simp only [cnt_nil, cnt_cons, cnt_append]; omega)) _ (fun w10 hs10 => ?_)
    exact fin now _ v5 hp4 hp5 _ _ [] [] [] w10 hwn ho5 (ownS_nil _ _) (ownS_nil _ _) (by simp) (hs10.re (fun _ => by simp only [cnt_nil, cnt_cons, cnt_append]; omega))
  -- Advance, Step, any other
  refine ⟨fun vs w => (∃ x : Bool, vs = [.bool x]) ∧ w = w3, ?_, ?_⟩
  · try simp (disch := omega) only [pV_some, pE_some, pU_some, st_add, st_sub, st_mul, st_quo, st_rem, st_eql, st_neq, st_lss, st_leq, st_gtr, st_geq, st_seq, st_sneq, st_beq, st_bneq, st_not, st_neg, st_lenS, st_capS, st_lenT, st_fldA, st_conv, st_pick, st_ext0, st_ext1, st_ext2, st_ext3, st_nilS, st_nilP, st_nilF, st_nilE, st_nilN, st_none, st_some, st_true, st_false, nilC, add_lit, Nat.zero_add, Nat.add_zero, nth0, nth1, nth2, nth3, nth4, nth5, nth6, List.getElem?_cons_succ, List.getElem?_cons_zero, cond_true, cond_false, pSC_orp, pSC_andp, wrap_i64, Bool.not_true, Bool.not_false]
    refine pIf_of (fun h => ⟨⟨_, rfl⟩, trivial⟩) (fun h => ?_)
    try simp (disch := omega) only [pV_some, pE_some, pU_some, st_add, st_sub, st_mul, st_quo, st_rem, st_eql, st_neq, st_lss, st_leq, st_gtr, st_geq, st_seq, st_sneq, st_beq, st_bneq, st_not, st_neg, st_lenS, st_capS, st_lenT, st_fldA, st_conv, st_pick, st_ext0, st_ext1, st_ext2, st_ext3, st_nilS, st_nilP, st_nilF, st_nilE, st_nilN, st_none, st_some, st_true, st_false, nilC, add_lit, Nat.zero_add, Nat.add_zero, nth0, nth1, nth2, nth3, nth4, nth5, nth6, List.getElem?_cons_succ, List.getElem?_cons_zero, cond_true, cond_false, pSC_orp, pSC_andp, wrap_i64, Bool.not_true, Bool.not_false]
    exact ⟨⟨_, rfl⟩, trivial⟩
  rintro vs w4 ⟨⟨x, rfl⟩, rfl⟩
  try simp (disch := omega) only [pV_some, pE_some, pU_some, st_add, st_sub, st_mul, st_quo, st_rem, st_eql, st_neq, st_lss, st_leq, st_gtr, st_geq, st_seq, st_sneq, st_beq, st_bneq, st_not, st_neg, st_lenS, st_capS, st_lenT, st_fldA, st_conv, st_pick, st_ext0, st_ext1, st_ext2, st_ext3, st_nilS, st_nilP, st_nilF, st_nilE, st_nilN, st_none, st_some, st_true, st_false, nilC, add_lit, Nat.zero_add, Nat.add_zero, nth0, nth1, nth2, nth3, nth4, nth5, nth6, List.getElem?_cons_succ, List.getElem?_cons_zero, cond_true, cond_false, pSC_orp, pSC_andp, wrap_i64, Bool.not_true, Bool.not_false, g1, g2, g3, g4, g5, g6, g7]
  refine pIf_of (fun hk3 => ?_) (fun hk3 => ?_)
  · refine ⟨fun vs w => (∃ x : Int, vs = [.int .i64 x]) ∧ w = w4, ?_, ?_⟩
    · try simp (disch := omega) only [pV_some, pE_some, pU_some, st_add, st_sub, st_mul, st_quo, st_rem, st_eql, st_neq, st_lss, st_leq, st_gtr, st_geq, st_seq, st_sneq, st_beq, st_bneq, st_not, st_neg, st_lenS, st_capS, st_lenT, st_fldA, st_conv, st_pick, st_ext0, st_ext1, st_ext2, st_ext3, st_nilS, st_nilP, st_nilF, st_nilE, st_nilN, st_none, st_some, st_true, st_false, nilC, add_lit, Nat.zero_add, Nat.add_zero, nth0, nth1, nth2, nth3, nth4, nth5, nth6, List.getElem?_cons_succ, List.getElem?_cons_zero, cond_true, cond_false, pSC_orp, pSC_andp, wrap_i64, Bool.not_true, Bool.not_false, g1, g2, g3, g4, g5, g6, g7]
      refine pIf_of (fun h => ?_) (fun h => ⟨⟨_, rfl⟩, trivial⟩)
      try simp (disch := omega) only [pV_some, pE_some, pU_some, st_add, st_sub, st_mul, st_quo, st_rem, st_eql, st_neq, st_lss, st_leq, st_gtr, st_geq, st_seq, st_sneq, st_beq, st_bneq, st_not, st_neg, st_lenS, st_capS, st_lenT, st_fldA, st_conv, st_pick, st_ext0, st_ext1, st_ext2, st_ext3, st_nilS, st_nilP, st_nilF, st_nilE, st_nilN, st_none, st_some, st_true, st_false, nilC, add_lit, Nat.zero_add, Nat.add_zero, nth0, nth1, nth2, nth3, nth4, nth5, nth6, List.getElem?_cons_succ, List.getElem?_cons_zero, cond_true, cond_false, pSC_orp, pSC_andp, wrap_i64, Bool.not_true, Bool.not_false, g1, g2, g3, g4, g5, g6, g7]
      exact ⟨⟨_, rfl⟩, trivial⟩
    rintro vs w5 ⟨⟨to, rfl⟩, rfl⟩
    try simp (disch := omega) only [pV_some, pE_some, pU_some, st_add, st_sub, st_mul, st_quo, st_rem, st_eql, st_neq, st_lss, st_leq, st_gtr, st_geq, st_seq, st_sneq, st_beq, st_bneq, st_not, st_neg, st_lenS, st_capS, st_lenT, st_fldA, st_conv, st_pick, st_ext0, st_ext1, st_ext2, st_ext3, st_nilS, st_nilP, st_nilF, st_nilE, st_nilN, st_none, st_some, st_true, st_false, nilC, add_lit, Nat.zero_add, Nat.add_zero, nth0, nth1, nth2, nth3, nth4, nth5, nth6, List.getElem?_cons_succ, List.getElem?_cons_zero, cond_true, cond_false, pSC_orp, pSC_andp, wrap_i64, Bool.not_true, Bool.not_false, g1, g2, g3, g4, g5, g6, g7]
    refine F7_pc (advance_spec so hw (r := hv ++ ((b, ⟨pC3 p now v, (.t 51)⟩) :: (b2, ⟨opC o, (.t 54)⟩) :: (b3, ⟨[.pointer none, .int .i64 0, .slice none 0 0], (.t 51)⟩) :: r)) (hs3.re (fun _ => by simp only [cnt_nil, cnt_cons, cnt_append]; omega)) to (fun hbad => ?_) (fun tn htn htn1 htn2 l hl hp4 w6 hol hw6 hs6 => ?_))
    · try simp (disch := omega) only [pV_some, pE_some, pU_some, st_add, st_sub, st_mul, st_quo, st_rem, st_eql, st_neq, st_lss, st_leq, st_gtr, st_geq, st_seq, st_sneq, st_beq, st_bneq, st_not, st_neg, st_lenS, st_capS, st_lenT, st_fldA, st_conv, st_pick, st_ext0, st_ext1, st_ext2, st_ext3, st_nilS, st_nilP, st_nilF, st_nilE, st_nilN, st_none, st_some, st_true, st_false, nilC, add_lit, Nat.zero_add, Nat.add_zero, nth0, nth1, nth2, nth3, nth4, nth5, nth6, List.getElem?_cons_succ, List.getElem?_cons_zero, cond_true, cond_false, pSC_orp, pSC_andp, wrap_i64, Bool.not_true, Bool.not_false, g1, g2, g3, g4, g5, g6, g7]
      refine F32_pc (advanceR_spec (ho.reads (h := hp ++ ((b, ⟨pC3 p now v, (.t 51)⟩) :: (b2, ⟨opC o, (.t 54)⟩) :: (b3, ⟨[.pointer none, .int .i64 0, .slice none 0 0], (.t 51)⟩) :: r)) (hs3.re (fun _ => by simp only [cnt_nil, cnt_cons, cnt_append]; omega))) hLl now to (fun _ w6 hs6 => ?_) (fun h => by omega))
      have hs6 := hs3.call hs6
      try simp (disch := omega) only [pV_some, pE_some, pU_some, st_add, st_sub, st_mul, st_quo, st_rem, st_eql, st_neq, st_lss, st_leq, st_gtr, st_geq, st_seq, st_sneq, st_beq, st_bneq, st_not, st_neg, st_lenS, st_capS, st_lenT, st_fldA, st_conv, st_pick, st_ext0, st_ext1, st_ext2, st_ext3, st_nilS, st_nilP, st_nilF, st_nilE, st_nilN, st_none, st_some, st_true, st_false, nilC, add_lit, Nat.zero_add, Nat.add_zero, nth0, nth1, nth2, nth3, nth4, nth5, nth6, List.getElem?_cons_succ, List.getElem?_cons_zero, cond_true, cond_false, pSC_orp, pSC_andp, wrap_i64, Bool.not_true, Bool.not_false]
      refine pE_boxc hs6 [.int .i64 0, .slice none 0 0] rfl (fun b4 w7 hs7 _ _ => ?_)
      refine pU_wV hs7 ho.one (fun w8 hs8 hl8 => ?_)
      try simp (disch := omega) only [pV_some, pE_some, pU_some, st_add, st_sub, st_mul, st_quo, st_rem, st_eql, st_neq, st_lss, st_leq, st_gtr, st_geq, st_seq, st_sneq, st_beq, st_bneq, st_not, st_neg, st_lenS, st_capS, st_lenT, st_fldA, st_conv, st_pick, st_ext0, st_ext1, st_ext2, st_ext3, st_nilS, st_nilP, st_nilF, st_nilE, st_nilN, st_none, st_some, st_true, st_false, nilC, add_lit, Nat.zero_add, Nat.add_zero, nth0, nth1, nth2, nth3, nth4, nth5, nth6, List.getElem?_cons_succ, List.getElem?_cons_zero, cond_true, cond_false, pSC_orp, pSC_andp, wrap_i64, Bool.not_true, Bool.not_false, hl8]
      refine pU_p1 (p := p) (now := now) (v := v) (ty := 51) (h := (b2, ⟨opC o, (.t 54)⟩) :: (b3, ⟨[.pointer none, .int .i64 0, .slice none 0 0], (.t 51)⟩) :: (hp ++ (hv ++ r))) (hs8.re (fun _ => by simp only [cnt_nil, cnt_cons, cnt_append]; omega)) ho.one (fun w9 hs9 => ?_)
      refine pDraw_st hs9 (fun w10 hs10 _ => ?_)
      obtain ⟨g1, g2, g3, g4, g5, g6, g7⟩ := facts now v ((b3, ⟨[.pointer none, .int .i64 0, .slice none 0 0], (.t 51)⟩) :: (hp ++ (hv ++ r))) w10 (hs10.re (fun _ => by simp only [cnt_nil, cnt_cons, cnt_append]; omega))
      try simp (disch := omega) only [pV_some, pE_some, pU_some, st_add, st_sub, st_mul, st_quo, st_rem, st_eql, st_neq, st_lss, st_leq, st_gtr, st_geq, st_seq, st_sneq, st_beq, st_bneq, st_not, st_neg, st_lenS, st_capS, st_lenT, st_fldA, st_conv, st_pick, st_ext0, st_ext1, st_ext2, st_ext3, st_nilS, st_nilP, st_nilF, st_nilE, st_nilN, st_none, st_some, st_true, st_false, nilC, add_lit, Nat.zero_add, Nat.add_zero, nth0, nth1, nth2, nth3, nth4, nth5, nth6, List.getElem?_cons_succ, List.getElem?_cons_zero, cond_true, cond_false, pSC_orp, pSC_andp, wrap_i64, Bool.not_true, Bool.not_false, g3, g5, eq_self, decide_true]
      refine pSC_and_t rfl ?_
      unfold pKept
      have hnil : RdF w10 (.slice none 0 0) [] := ⟨rfl, none, 0, rfl, Nat.le_refl _, fun _ => rfl, fun ad h => by cases h⟩
      refine F13_pc (sameF_spec hnil hnil (by simp) (fun w11 hs11 => ?_))
      have hs11 := hs10.call hs11
      obtain ⟨q1, q2, q3, q4, q5, q6, q7⟩ := facts now v ((b3, ⟨[.pointer none, .int .i64 0, .slice none 0 0], (.t 51)⟩) :: (hp ++ (hv ++ r))) w11 (hs11.re (fun _ => by simp only [cnt_nil, cnt_cons, cnt_append]; omega))
      refine ⟨keeps1 g3 q3, ?_⟩
      try simp (disch := omega) only [pV_some, pE_some, pU_some, st_add, st_sub, st_mul, st_quo, st_rem, st_eql, st_neq, st_lss, st_leq, st_gtr, st_geq, st_seq, st_sneq, st_beq, st_bneq, st_not, st_neg, st_lenS, st_capS, st_lenT, st_fldA, st_conv, st_pick, st_ext0, st_ext1, st_ext2, st_ext3, st_nilS, st_nilP, st_nilF, st_nilE, st_nilN, st_none, st_some, st_true, st_false, nilC, add_lit, Nat.zero_add, Nat.add_zero, nth0, nth1, nth2, nth3, nth4, nth5, nth6, List.getElem?_cons_succ, List.getElem?_cons_zero, cond_true, cond_false, pSC_orp, pSC_andp, wrap_i64, Bool.not_true, Bool.not_false, q3, q5, eq_self, decide_true]
      refine pSC_and_t rfl ?_
      refine ask now L v hp hv ((b3, ⟨[.pointer none, .int .i64 0, .slice none 0 0], (.t 51)⟩) :: r) w11 hw ho (hs11.re (fun _ => by simp only [cnt_nil, cnt_cons, cnt_append]; omega)) _ (fun w12 hs12 => ?_)
      exact fin now L v hp hv _ _ [] [] [] w12 hw ho (ownS_nil _ _) (ownS_nil _ _) (by simp) (hs12.re (fun _ => by simp only [cnt_nil, cnt_cons, cnt_append]; omega))
    · subst htn
      obtain ⟨g1, g2, g3, g4, g5, g6, g7⟩ := facts now v ((b3, ⟨[.pointer none, .int .i64 0, .slice none 0 0], (.t 51)⟩) :: (hp4 ++ (hl ++ (hv ++ r)))) w6 (hs6.re (fun _ => by simp only [cnt_nil, cnt_cons, cnt_append]; omega))
      try simp (disch := omega) only [pV_some, pE_some, pU_some, st_add, st_sub, st_mul, st_quo, st_rem, st_eql, st_neq, st_lss, st_leq, st_gtr, st_geq, st_seq, st_sneq, st_beq, st_bneq, st_not, st_neg, st_lenS, st_capS, st_lenT, st_fldA, st_conv, st_pick, st_ext0, st_ext1, st_ext2, st_ext3, st_nilS, st_nilP, st_nilF, st_nilE, st_nilN, st_none, st_some, st_true, st_false, nilC, add_lit, Nat.zero_add, Nat.add_zero, nth0, nth1, nth2, nth3, nth4, nth5, nth6, List.getElem?_cons_succ, List.getElem?_cons_zero, cond_true, cond_false, pSC_orp, pSC_andp, wrap_i64, Bool.not_true, Bool.not_false, g1, g2, g3, g4, g5, g6, g7]
      refine F32_pc (advanceR_spec (ho.reads (h := hp4 ++ (hl ++ ((b, ⟨pC3 p now v, (.t 51)⟩) :: (b2, ⟨opC o, (.t 54)⟩) :: (b3, ⟨[.pointer none, .int .i64 0, .slice none 0 0], (.t 51)⟩) :: r))) (hs6.re (fun _ => by simp only [cnt_nil, cnt_cons, cnt_append]; omega))) hLl now tn (fun h => by omega) (fun _ v7 u7 hp7 hq7 w7 ho7 hou hs7 => ?_))
      have hs7 := hs6.call hs7
      try simp (disch := omega) only [pV_some, pE_some, pU_some, st_add, st_sub, st_mul, st_quo, st_rem, st_eql, st_neq, st_lss, st_leq, st_gtr, st_geq, st_seq, st_sneq, st_beq, st_bneq, st_not, st_neg, st_lenS, st_capS, st_lenT, st_fldA, st_conv, st_pick, st_ext0, st_ext1, st_ext2, st_ext3, st_nilS, st_nilP, st_nilF, st_nilE, st_nilN, st_none, st_some, st_true, st_false, nilC, add_lit, Nat.zero_add, Nat.add_zero, nth0, nth1, nth2, nth3, nth4, nth5, nth6, List.getElem?_cons_succ, List.getElem?_cons_zero, cond_true, cond_false, pSC_orp, pSC_andp, wrap_i64, Bool.not_true, Bool.not_false]
      refine pE_boxc hs7 [.int .i64 0, .slice none 0 0] rfl (fun b4 w8 hs8 _ _ => ?_)
      refine pU_wV hs8 ho7.one (fun w9 hs9 hl9 => ?_)
      try simp (disch := omega) only [pV_some, pE_some, pU_some, st_add, st_sub, st_mul, st_quo, st_rem, st_eql, st_neq, st_lss, st_leq, st_gtr, st_geq, st_seq, st_sneq, st_beq, st_bneq, st_not, st_neg, st_lenS, st_capS, st_lenT, st_fldA, st_conv, st_pick, st_ext0, st_ext1, st_ext2, st_ext3, st_nilS, st_nilP, st_nilF, st_nilE, st_nilN, st_none, st_some, st_true, st_false, nilC, add_lit, Nat.zero_add, Nat.add_zero, nth0, nth1, nth2, nth3, nth4, nth5, nth6, List.getElem?_cons_succ, List.getElem?_cons_zero, cond_true, cond_false, pSC_orp, pSC_andp, wrap_i64, Bool.not_true, Bool.not_false, hl9]
      refine pU_p1 (p := p) (now := now) (v := v) (ty := 51) (h := (b2, ⟨opC o, (.t 54)⟩) :: (b3, ⟨[.pointer none, .int .i64 0, .slice none 0 0], (.t 51)⟩) :: (hp4 ++ (hl ++ (hp7 ++ (hq7 ++ r))))) (hs9.re (fun _ => by simp only [cnt_nil, cnt_cons, cnt_append]; omega)) ho7.one (fun w10 hs10 => ?_)
      refine pDraw_st hs10 (fun w11 hs11 _ => ?_)
      obtain ⟨g1, g2, g3, g4, g5, g6, g7⟩ := facts tn v7 ((b3, ⟨[.pointer none, .int .i64 0, .slice none 0 0], (.t 51)⟩) :: (hp4 ++ (hl ++ (hp7 ++ (hq7 ++ r))))) w11 (hs11.re (fun _ => by simp only [cnt_nil, cnt_cons, cnt_append]; omega))
      try simp (disch := omega) only [pV_some, pE_some, pU_some, st_add, st_sub, st_mul, st_quo, st_rem, st_eql, st_neq, st_lss, st_leq, st_gtr, st_geq, st_seq, st_sneq, st_beq, st_bneq, st_not, st_neg, st_lenS, st_capS, st_lenT, st_fldA, st_conv, st_pick, st_ext0, st_ext1, st_ext2, st_ext3, st_nilS, st_nilP, st_nilF, st_nilE, st_nilN, st_none, st_some, st_true, st_false, nilC, add_lit, Nat.zero_add, Nat.add_zero, nth0, nth1, nth2, nth3, nth4, nth5, nth6, List.getElem?_cons_succ, List.getElem?_cons_zero, cond_true, cond_false, pSC_orp, pSC_andp, wrap_i64, Bool.not_true, Bool.not_false, g3, g5, eq_self, decide_true]
      refine pSC_and_t rfl ?_
      have hul := upTo_len tn L
      unfold pKept
      refine F13_pc (sameF_spec (hol.reads (h := (b, ⟨pC3 p tn v7, (.t 51)⟩) :: (b2, ⟨opC o, (.t 54)⟩) :: (b3, ⟨[.pointer none, .int .i64 0, .slice none 0 0], (.t 51)⟩) :: (hp4 ++ (hp7 ++ (hq7 ++ r)))) (hs11.re (fun _ => by simp only [cnt_nil, cnt_cons, cnt_append]; omega))) (hou.reads (h := (b, ⟨pC3 p tn v7, (.t 51)⟩) :: (b2, ⟨opC o, (.t 54)⟩) :: (b3, ⟨[.pointer none, .int .i64 0, .slice none 0 0], (.t 51)⟩) :: (hp4 ++ (hp7 ++ (hl ++ r)))) (hs11.re (fun _ => by simp only [cnt_nil, cnt_cons, cnt_append]; omega))) (by omega) (fun w12 hs12 => ?_))
      have hs12 := hs11.call hs12
      obtain ⟨q1, q2, q3, q4, q5, q6, q7⟩ := facts tn v7 ((b3, ⟨[.pointer none, .int .i64 0, .slice none 0 0], (.t 51)⟩) :: (hp4 ++ (hl ++ (hp7 ++ (hq7 ++ r))))) w12 (hs12.re (fun _ => by simp only [cnt_nil, cnt_cons, cnt_append]; omega))
      refine ⟨keeps1 g3 q3, ?_⟩
      try simp (disch := omega) only [pV_some, pE_some, pU_some, st_add, st_sub, st_mul, st_quo, st_rem, st_eql, st_neq, st_lss, st_leq, st_gtr, st_geq, st_seq, st_sneq, st_beq, st_bneq, st_not, st_neg, st_lenS, st_capS, st_lenT, st_fldA, st_conv, st_pick, st_ext0, st_ext1, st_ext2, st_ext3, st_nilS, st_nilP, st_nilF, st_nilE, st_nilN, st_none, st_some, st_true, st_false, nilC, add_lit, Nat.zero_add, Nat.add_zero, nth0, nth1, nth2, nth3, nth4, nth5, nth6, List.getElem?_cons_succ, List.getElem?_cons_zero, cond_true, cond_false, pSC_orp, pSC_andp, wrap_i64, Bool.not_true, Bool.not_false, q3, q5, eq_self, decide_true]
      refine pSC_and_t rfl ?_
      refine ask tn _ v7 hp4 hp7 ((b3, ⟨[.pointer none, .int .i64 0, .slice none 0 0], (.t 51)⟩) :: (hl ++ (hq7 ++ r))) w12 hw6 ho7 (hs12.re (fun _ => by simp only [cnt_nil, cnt_cons, cnt_append]; omega)) _ (fun w13 hs13 => ?_)
      exact fin tn _ v7 hp4 hp7 _ _ _ hl hq7 w13 hw6 ho7 hol hou (by omega) (hs13.re (fun _ => by simp only [cnt_nil, cnt_cons, cnt_append]; omega))
  · refine pDraw_st hs3 (fun w5 hs5 _ => ?_)
    obtain ⟨g1, g2, g3, g4, g5, g6, g7⟩ := facts now v ((b3, ⟨[.pointer none, .int .i64 0, .slice none 0 0], (.t 51)⟩) :: (hp ++ (hv ++ r))) w5 (hs5.re (fun _ => by simp only [cnt_nil, cnt_cons, cnt_append]; omega))
    try simp (disch := omega) only [pV_some, pE_some, pU_some, st_add, st_sub, st_mul, st_quo, st_rem, st_eql, st_neq, st_lss, st_leq, st_gtr, st_geq, st_seq, st_sneq, st_beq, st_bneq, st_not, st_neg, st_lenS, st_capS, st_lenT, st_fldA, st_conv, st_pick, st_ext0, st_ext1, st_ext2, st_ext3, st_nilS, st_nilP, st_nilF, st_nilE, st_nilN, st_none, st_some, st_true, st_false, nilC, add_lit, Nat.zero_add, Nat.add_zero, nth0, nth1, nth2, nth3, nth4, nth5, nth6, List.getElem?_cons_succ, List.getElem?_cons_zero, cond_true, cond_false, pSC_orp, pSC_andp, wrap_i64, Bool.not_true, Bool.not_false, g3, g5]
    refine ask now L v hp hv ((b3, ⟨[.pointer none, .int .i64 0, .slice none 0 0], (.t 51)⟩) :: r) w5 hw ho (hs5.re (fun _ => by simp only [cnt_nil, cnt_cons, cnt_append]; omega)) _ (fun w6 hs6 => ?_)
    exact fin now L v hp hv _ _ [] [] [] w6 hw ho (ownS_nil _ _) (ownS_nil _ _) (by simp) (hs6.re (fun _ => by simp only [cnt_nil, cnt_cons, cnt_append]; omega))
end Go.Proofs.Ytbbjljhbiaeadaa
