/- wheel: Cancel, Arm, When, Len, Now, New, move. -/
import Derived.Test.YtbbjljhbiaeadaaWhC
set_option linter.unusedSimpArgs false
set_option linter.unusedVariables false
set_option maxRecDepth 100000
namespace Go.Proofs.Ytbbjljhbiaeadaa
open Go.Bk Go.RowKit

def WInv (p now : Nat) (T : List (Int × Int)) (hp : HP) : Prop := ∃ rs, WMem p now T rs hp ∧ Inv now T (rs.map (·.2))

theorem WMemAt.focus {p now m : Nat} {T : List (Int × Int)} {rs : List Rg} {hm hr hp r : HP} (h : WMemAt p now m T rs hm hr hp) {w0 w : World} {M : Nat → Prop} (hs : St w0 M (hp ++ r) w) {j : Nat} (hj : j < 448) :
    ∃ q kq g, rs[j]? = some q ∧ ROwn q kq ∧ St w0 M (kq ++ ((p, ⟨wCells now m rs, (.t 64)⟩) :: (hm ++ (g ++ r)))) w ∧ ∀ v' d' k', OwnI v' d' k' → OwnAll ROwn (rs.set j (v', d')) (k' ++ g) := by
  have hlt : j < rs.length := by rw [h.l]; exact hj
  have hq := List.getElem?_eq_getElem hlt
  obtain ⟨kq, g, hown, hcnt, hput⟩ := h.r.focus hq
  exact ⟨_, kq, g, hq, hown, (h.st hs).re (fun a => by have := hcnt a; simp only [cnt_cons, cnt_append] at this ⊢; omega), fun v' d' k' ho => hput (v', d') k' ho⟩
theorem WMemAt.map {p now m : Nat} {T : List (Int × Int)} {rs : List Rg} {hm hr hp r : HP} (h : WMemAt p now m T rs hm hr hp) {w0 w : World} {M : Nat → Prop} (hs : St w0 M (hp ++ r) w) : St w0 M (hm ++ ((p, ⟨wCells now m rs, (.t 64)⟩) :: (hr ++ r))) w :=
  (h.st hs).re (fun _ => by simp only [cnt_nil, cnt_cons, cnt_append]; omega)
theorem posT_some {now : Nat} {T : List (Int × Int)} {id : Int} {j : Nat} (h : posT now T id = some j) : mget T id ≠ none := by
  intro he; unfold posT at h; rw [he] at h; cases h
theorem Inv.len {now : Nat} {T : List (Int × Int)} {rs : List Rg} (h : Inv now T (rs.map (·.2))) : ∀ q ∈ rs, q.2.length ≤ 65536 := by
  intro q hq
  obtain ⟨j, hj⟩ := List.getElem?_of_mem hq
  exact h.pl.len h.ok (fun id j => posT_some) (j := j) (l := q.2) (by rw [List.getElem?_map, hj]; rfl)

theorem now_spec {w0 w : World} {M : Nat → Prop} {p now : Nat} {T : List (Int × Int)} {hp r : HP} (hw : WInv p now T hp) (hs : St w0 M (hp ++ r) w) {K : Value → World → Prop}
    (k : K (.int .i64 now) w) : F10 (.pointer (some ⟨p, 0, none⟩)) w K := by
  unfold F10
  obtain ⟨rs, ⟨m, hm, hr, ha⟩, hi⟩ := hw
  try simp (disch := omega) only [pV_some, pE_some, pU_some, st_add, st_sub, st_mul, st_quo, st_rem, st_eql, st_neq, st_lss, st_leq, st_gtr, st_geq, st_seq, st_sneq, st_beq, st_bneq, st_not, st_neg, st_lenS, st_capS, st_lenT, st_fldA, st_conv, st_pick, st_ext0, st_ext1, st_ext2, st_ext3, st_nilS, st_nilP, st_nilF, st_nilE, st_nilN, st_none, st_some, st_true, st_false, nilC, add_lit, Nat.zero_add, Nat.add_zero, nth0, nth1, nth2, nth3, nth4, nth5, nth6, List.getElem?_cons_succ, List.getElem?_cons_zero, cond_true, cond_false, pSC_orp, pSC_andp, wrap_i64, Bool.not_true, Bool.not_false, ld_now (ha.has hs)]
  exact k
theorem len_spec {w0 w : World} {M : Nat → Prop} {p now : Nat} {T : List (Int × Int)} {hp r : HP} (hw : WInv p now T hp) (hs : St w0 M (hp ++ r) w) {K : Value → World → Prop}
    (k : K (.int .i64 T.length) w) : F9 (.pointer (some ⟨p, 0, none⟩)) w K := by
  unfold F9
  obtain ⟨rs, ⟨m, hm, hr, ha⟩, hi⟩ := hw
  try simp (disch := omega) only [pV_some, pE_some, pU_some, st_add, st_sub, st_mul, st_quo, st_rem, st_eql, st_neq, st_lss, st_leq, st_gtr, st_geq, st_seq, st_sneq, st_beq, st_bneq, st_not, st_neg, st_lenS, st_capS, st_lenT, st_fldA, st_conv, st_pick, st_ext0, st_ext1, st_ext2, st_ext3, st_nilS, st_nilP, st_nilF, st_nilE, st_nilN, st_none, st_some, st_true, st_false, nilC, add_lit, Nat.zero_add, Nat.add_zero, nth0, nth1, nth2, nth3, nth4, nth5, nth6, List.getElem?_cons_succ, List.getElem?_cons_zero, cond_true, cond_false, pSC_orp, pSC_andp, wrap_i64, Bool.not_true, Bool.not_false, ld_map (ha.has hs), mlen_spec ty_map ha.m (ha.map hs)]
  exact k
theorem when_spec {w0 w : World} {M : Nat → Prop} {p now : Nat} {T : List (Int × Int)} {hp r : HP} (hw : WInv p now T hp) (hs : St w0 M (hp ++ r) w) (id : Int) {K : Value → World → Prop}
    (k : K (.tuple #[.int .i64 ((mget T id).getD 0), .bool (mget T id).isSome]) w) : F14 (.pointer (some ⟨p, 0, none⟩)) (.int .i64 id) w K := by
  unfold F14
  obtain ⟨rs, ⟨m, hm, hr, ha⟩, hi⟩ := hw
  try simp (disch := omega) only [pV_some, pE_some, pU_some, st_add, st_sub, st_mul, st_quo, st_rem, st_eql, st_neq, st_lss, st_leq, st_gtr, st_geq, st_seq, st_sneq, st_beq, st_bneq, st_not, st_neg, st_lenS, st_capS, st_lenT, st_fldA, st_conv, st_pick, st_ext0, st_ext1, st_ext2, st_ext3, st_nilS, st_nilP, st_nilF, st_nilE, st_nilN, st_none, st_some, st_true, st_false, nilC, add_lit, Nat.zero_add, Nat.add_zero, nth0, nth1, nth2, nth3, nth4, nth5, nth6, List.getElem?_cons_succ, List.getElem?_cons_zero, cond_true, cond_false, pSC_orp, pSC_andp, wrap_i64, Bool.not_true, Bool.not_false, ld_map (ha.has hs), (mget_spec ty_map ha.m (ha.map hs) id).1]
  exact k

theorem new_spec {w : World} (now : Int) {K : Value → World → Prop}
    (k1 : now < 0 ∨ 1099511627776 < now → K (.tuple #[.pointer none, .int .i64 2]) w)
    (k2 : ∀ n : Nat, now = n → n ≤ 1099511627776 → ∀ p hp w', WInv p n [] hp → St w no hp w' → K (.tuple #[.pointer (some ⟨p, 0, none⟩), .int .i64 0]) w') : F18 (.int .i64 now) w K := by
  unfold F18
  try simp (disch := omega) only [pV_some, pE_some, pU_some, st_add, st_sub, st_mul, st_quo, st_rem, st_eql, st_neq, st_lss, st_leq, st_gtr, st_geq, st_seq, st_sneq, st_beq, st_bneq, st_not, st_neg, st_lenS, st_capS, st_lenT, st_fldA, st_conv, st_pick, st_ext0, st_ext1, st_ext2, st_ext3, st_nilS, st_nilP, st_nilF, st_nilE, st_nilN, st_none, st_some, st_true, st_false, nilC, add_lit, Nat.zero_add, Nat.add_zero, nth0, nth1, nth2, nth3, nth4, nth5, nth6, List.getElem?_cons_succ, List.getElem?_cons_zero, cond_true, cond_false, pSC_orp, pSC_andp, wrap_i64, Bool.not_true, Bool.not_false]
  refine pIf_of (fun h => k1 (by simp at h; omega)) (fun h => ?_)
  have h : 0 ≤ now ∧ now ≤ 1099511627776 := by simp at h; omega
  obtain ⟨n, rfl⟩ : ∃ n : Nat, now = n := ⟨now.toNat, by omega⟩
  refine mnew_spec (St.nil w no) (fun m hm w1 hom hs1 _ => ?_)
  refine pV_eq (v := .agg (wCells n m (List.replicate 448 (.slice none 0 0, []))).toArray) (by kernel_rfl) ?_
  refine pE_boxc hs1 (wCells n m (List.replicate 448 (.slice none 0 0, []))) (by simp [Value.cells]) (fun p w2 hs2 _ _ => ?_)
  refine k2 n rfl (by omega) p ((p, ⟨wCells n m (List.replicate 448 (.slice none 0 0, [])), (.t 64)⟩) :: (hm ++ [])) w2 ⟨_, ⟨m, hm, [], hom, ?_, by simp, fun a => rfl⟩, ?_⟩ (hs2.re (fun _ => by simp only [cnt_nil, cnt_cons, cnt_append]; omega))
  · have : ∀ n : Nat, OwnAll ROwn (List.replicate n (Value.slice none 0 0, ([] : List Int))) [] := by
      intro n
      induction n with
      | zero => exact OwnAll.none
      | succ n ih =>
        rw [List.replicate_succ]
        exact OwnAll.cons (k := []) (g := []) (ownS_nil _ _) ih (fun _ => rfl)
    exact this 448
  · refine ⟨⟨by simp [mkeys], fun id t h => by simp [mget] at h, fun id t h => by simp [mget] at h, by omega⟩, by simp, fun j l hj => ?_⟩
    rw [List.map_replicate, List.getElem?_replicate] at hj
    split at hj
    · cases hj
      exact ⟨List.nodup_nil, fun id => by simp [posT, mget]⟩
    · cases hj

theorem Ok.del {now : Nat} {T : List (Int × Int)} (h : Ok now T) (id : Int) : Ok now (mdel T id) := by
  have hg := mget_del h.nd id
  refine ⟨mkeys_del h.nd id, fun i t hi => ?_, fun i t hi => ?_, h.n⟩
  · rw [hg] at hi; split at hi
    · cases hi
    · exact h.id i t hi
  · rw [hg] at hi; split at hi
    · cases hi
    · exact h.t i t hi
theorem Ok.put {now : Nat} {T : List (Int × Int)} (h : Ok now T) {id t : Int} (hn : mget T id = none) (h1 : 0 ≤ id ∧ id ≤ 65535) (h2 : (now : Int) ≤ t ∧ t < 1099511627776) : Ok now (mput T id t) := by
  have hg := mget_put T id t
  refine ⟨?_, fun i x hi => ?_, fun i x hi => ?_, h.n⟩
  · rw [mkeys_put_new hn]
    simp only [mkeys, List.map_append, List.map_cons, List.map_nil]
    rw [List.nodup_append]
    exact ⟨h.nd, by simp, fun a ha b hb => by simp at hb; subst hb; intro e; subst e; exact (mget_none.1 hn) ha⟩
  · rw [hg] at hi; split at hi
    · rename_i he; rw [he]; exact h1
    · exact h.id i x hi
  · rw [hg] at hi; split at hi
    · cases hi; exact h2
    · exact h.t i x hi

theorem cancel_spec {w0 w : World} {M : Nat → Prop} {p now : Nat} {T : List (Int × Int)} {hp r : HP} (hw : WInv p now T hp) (hs : St w0 M (hp ++ r) w) (id : Int) {K : Value → World → Prop}
    (k : ∀ hp' w', WInv p now (mdel T id) hp' → St w0 M (hp' ++ r) w' → K (.bool (mget T id).isSome) w') : F17 (.pointer (some ⟨p, 0, none⟩)) (.int .i64 id) w K := by
  unfold F17
  refine pE_boxc hs [.int .i64 id] rfl (fun b1 w1 hs1 ht1 _ => ?_)
  have hs1' : St w0 M (hp ++ ((b1, ⟨[.int .i64 id], (.t 3)⟩) :: r)) w1 := hs1.re (fun _ => by simp only [cnt_nil, cnt_cons, cnt_append]; omega)
  refine pDraw_st hs1' (fun w2 hs2 ht2 => ?_)
  have hw0 := hw
  obtain ⟨rs, ⟨m, hm, hr, ha⟩, hi⟩ := hw
  have hB : Has w2 b1 ⟨[.int .i64 id], (.t 3)⟩ := hs2.has (b1, _) (by simp)
  try simp (disch := omega) only [pV_some, pE_some, pU_some, st_add, st_sub, st_mul, st_quo, st_rem, st_eql, st_neq, st_lss, st_leq, st_gtr, st_geq, st_seq, st_sneq, st_beq, st_bneq, st_not, st_neg, st_lenS, st_capS, st_lenT, st_fldA, st_conv, st_pick, st_ext0, st_ext1, st_ext2, st_ext3, st_nilS, st_nilP, st_nilF, st_nilE, st_nilN, st_none, st_some, st_true, st_false, nilC, add_lit, Nat.zero_add, Nat.add_zero, nth0, nth1, nth2, nth3, nth4, nth5, nth6, List.getElem?_cons_succ, List.getElem?_cons_zero, cond_true, cond_false, pSC_orp, pSC_andp, wrap_i64, Bool.not_true, Bool.not_false, ld_map (ha.has hs2), hB.ld, (mget_spec ty_map ha.m (ha.map hs2) id).1]
  cases hget : mget T id with
  | none =>
    rw [hget] at k
    have hdel : mdel T id = T := by
      have : ∀ T : List (Int × Int), mget T id = none → mdel T id = T := by
        intro T
        induction T with
        | nil => intro _; rfl
        | cons e T ih =>
          intro h
          simp only [mget] at h
          simp only [mdel]
          by_cases hk : id = e.1
          · rw [if_pos hk] at h; cases h
          · rw [if_neg hk] at h ⊢; rw [ih h]
      exact this T hget
    rw [hdel] at k
    simp only [Option.isSome_none, Bool.not_false]
    refine pIf_true (k hp w2 hw0 (hs2.re (fun _ => by simp only [cnt_nil, cnt_cons, cnt_append]; omega)))
  | some t =>
    rw [hget] at k
    simp only [Option.isSome_some, Bool.not_true, Option.getD_some]
    refine pIf_false ?_
    obtain ⟨ht1, ht2⟩ := hi.ok.t id t hget
    have hnow := hi.ok.n
    obtain ⟨tn, rfl⟩ : ∃ n : Nat, t = n := ⟨t.toNat, by omega⟩
    have hslot : slot now tn < 448 := slot_lt (by omega) (by omega)
    refine F24_pc (slot_spec ⟨m, hm, hr, ha⟩ hs2 tn (by omega) (by omega) (fun w3 hs3 ht3 => ?_))
    obtain ⟨q, kq, g, hq, hown, hs4, hput⟩ := ha.focus hs3 hslot
    try simp (disch := omega) only [pV_some, pE_some, pU_some, st_add, st_sub, st_mul, st_quo, st_rem, st_eql, st_neq, st_lss, st_leq, st_gtr, st_geq, st_seq, st_sneq, st_beq, st_bneq, st_not, st_neg, st_lenS, st_capS, st_lenT, st_fldA, st_conv, st_pick, st_ext0, st_ext1, st_ext2, st_ext3, st_nilS, st_nilP, st_nilF, st_nilE, st_nilN, st_none, st_some, st_true, st_false, nilC, add_lit, Nat.zero_add, Nat.add_zero, nth0, nth1, nth2, nth3, nth4, nth5, nth6, List.getElem?_cons_succ, List.getElem?_cons_zero, cond_true, cond_false, pSC_orp, pSC_andp, wrap_i64, Bool.not_true, Bool.not_false, ld_ring (ha.has hs3) hq]
    have hql := hi.len q (List.mem_of_getElem? hq)
    refine F28_pc (delfunc_spec (id := id) hown hs4 (by simp) (by omega) (fun v5 k5 w5 ho5 hs5 => ?_))
    have hs6 : St w0 M ((p, ⟨wCells now m rs, (.t 64)⟩) :: (k5 ++ (hm ++ (g ++ ((b1, ⟨[.int .i64 id], (.t 3)⟩) :: r))))) w5 := hs5.re (fun _ => by simp only [cnt_nil, cnt_cons, cnt_append]; omega)
    refine ring_put (T := T) (hm := hm) (hr := hr) hs6 (by rw [ha.l]; exact hslot) ho5.one (drop1 q.2 id) (fun w7 hs7 => ?_)
    refine pDraw_st hs7 (fun w8 hs8 ht8 => ?_)
    have hB8 : Has w8 b1 ⟨[.int .i64 id], (.t 3)⟩ := hs8.has (b1, _) (by simp)
    try simp (disch := omega) only [pV_some, pE_some, pU_some, st_add, st_sub, st_mul, st_quo, st_rem, st_eql, st_neq, st_lss, st_leq, st_gtr, st_geq, st_seq, st_sneq, st_beq, st_bneq, st_not, st_neg, st_lenS, st_capS, st_lenT, st_fldA, st_conv, st_pick, st_ext0, st_ext1, st_ext2, st_ext3, st_nilS, st_nilP, st_nilF, st_nilE, st_nilN, st_none, st_some, st_true, st_false, nilC, add_lit, Nat.zero_add, Nat.add_zero, nth0, nth1, nth2, nth3, nth4, nth5, nth6, List.getElem?_cons_succ, List.getElem?_cons_zero, cond_true, cond_false, pSC_orp, pSC_andp, wrap_i64, Bool.not_true, Bool.not_false, ld_map hs8.top, hB8.ld]
    have hs9 : St w0 M (hm ++ ((p, ⟨wCells now m (rs.set (slot now tn) (v5, drop1 q.2 id)), (.t 64)⟩) :: (k5 ++ (g ++ ((b1, ⟨[.int .i64 id], (.t 3)⟩) :: r))))) w8 := hs8.re (fun _ => by simp only [cnt_nil, cnt_cons, cnt_append]; omega)
    refine mdel_spec ty_map ha.m hs9 id (fun hm' w10 hom hs10 => ?_)
    refine k ((p, ⟨wCells now m (rs.set (slot now tn) (v5, drop1 q.2 id)), (.t 64)⟩) :: (hm' ++ (k5 ++ g))) w10 ⟨_, ⟨m, hm', k5 ++ g, hom, hput v5 (drop1 q.2 id) k5 ho5, by simp [ha.l], fun a => rfl⟩, hi.ok.del id, ?_⟩ (hs10.re (fun _ => by simp only [cnt_nil, cnt_cons, cnt_append]; omega))
    rw [List.map_set]
    have hpos : posT now T id = some (slot now tn) := by unfold posT; rw [hget]; simp
    refine (hi.pl.del (l := q.2) (by rw [List.getElem?_map, hq]; rfl) hpos).congr (fun x => ?_)
    unfold posT
    rw [mget_del hi.ok.nd]
    split <;> rfl

theorem Inv.lay {now : Nat} {T : List (Int × Int)} {R : List (List Int)} (hi : Inv now T R) {id : Int} {t : Nat} (hn : mget T id = none) (h1 : 0 ≤ id ∧ id ≤ 65535) (h2 : now ≤ t ∧ t < 1099511627776) {l : List Int} (hl : R[slot now t]? = some l) : Inv now (mput T id t) (R.set (slot now t) (l ++ [id])) := by
  refine ⟨hi.ok.put hn h1 (by omega), ?_⟩
  refine (hi.pl.add (id := id) hl (by unfold posT; rw [hn]; rfl)).congr (fun x => ?_)
  unfold posT
  rw [mget_put]
  split
  · simp
  · rfl

theorem arm_spec {w0 w : World} {M : Nat → Prop} {p now : Nat} {T : List (Int × Int)} {hp r : HP} (hw : WInv p now T hp) (hs : St w0 M (hp ++ r) w) (id t : Int) {K : Value → World → Prop}
    (k1 : ¬ (0 ≤ id ∧ id ≤ 65535 ∧ (now : Int) ≤ t ∧ t < 1099511627776) → K (.int .i64 2) w)
    (k2 : (0 ≤ id ∧ id ≤ 65535 ∧ (now : Int) ≤ t ∧ t < 1099511627776) → ∀ hp' w', WInv p now (mput (mdel T id) id t) hp' → St w0 M (hp' ++ r) w' → K (.int .i64 0) w') : F15 (.pointer (some ⟨p, 0, none⟩)) (.int .i64 id) (.int .i64 t) w K := by
  unfold F15
  have hn0 : ldV false 1 w (.pointer (some ⟨p, 0, none⟩)) = some (.int .i64 now) := by
    obtain ⟨rs, ⟨m, hm, hr, ha⟩, hi⟩ := hw
    exact ld_now (ha.has hs)
  try simp (disch := omega) only [pV_some, pE_some, pU_some, st_add, st_sub, st_mul, st_quo, st_rem, st_eql, st_neq, st_lss, st_leq, st_gtr, st_geq, st_seq, st_sneq, st_beq, st_bneq, st_not, st_neg, st_lenS, st_capS, st_lenT, st_fldA, st_conv, st_pick, st_ext0, st_ext1, st_ext2, st_ext3, st_nilS, st_nilP, st_nilF, st_nilE, st_nilN, st_none, st_some, st_true, st_false, nilC, add_lit, Nat.zero_add, Nat.add_zero, nth0, nth1, nth2, nth3, nth4, nth5, nth6, List.getElem?_cons_succ, List.getElem?_cons_zero, cond_true, cond_false, pSC_orp, pSC_andp, wrap_i64, Bool.not_true, Bool.not_false, hn0]
  refine pIf_of (fun h => k1 (by simp at h; omega)) (fun h => ?_)
  have h : 0 ≤ id ∧ id ≤ 65535 ∧ (now : Int) ≤ t ∧ t < 1099511627776 := by simp at h; omega
  have hok : Ok now T := by obtain ⟨rs, _, hi⟩ := hw; exact hi.ok
  have hnd := hok.nd
  have hnow := hok.n
  refine F17_pc (cancel_spec hw hs id (fun hp1 w1 hw1 hs1 => ?_))
  obtain ⟨rs, hm1, hi⟩ := hw1
  obtain ⟨tn, rfl⟩ : ∃ n : Nat, t = n := ⟨t.toNat, by omega⟩
  refine F27_pc (lay_spec hm1 hs1 id tn (by omega) (by omega) (fun q hq => Nat.le_trans (hi.len q hq) (by omega)) (fun v' q hp2 w2 hq hm2 hs2 => ?_))
  refine k2 h hp2 w2 ⟨_, hm2, ?_⟩ hs2
  rw [List.map_set]
  exact hi.lay (by rw [mget_del hnd]; simp) ⟨h.1, h.2.1⟩ ⟨by omega, by omega⟩ (by rw [List.getElem?_map, hq]; rfl)
end Go.Proofs.Ytbbjljhbiaeadaa
