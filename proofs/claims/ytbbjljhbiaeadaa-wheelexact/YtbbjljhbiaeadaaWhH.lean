/- wheel: Advance. -/
import Derived.Test.YtbbjljhbiaeadaaWhG
set_option linter.unusedSimpArgs false
set_option linter.unusedVariables false
set_option maxRecDepth 100000
namespace Go.Proofs.Ytbbjljhbiaeadaa
open Go.Bk Go.RowKit Go.Sort

/-- The timers of the first tick: by number. -/
theorem group_eq {now : Nat} {T L : List (Int × Int)} {t : Int} {ids : List Int} (hok : Ok now T) (ha : Abs T L) (hids : ∀ x, x ∈ ids ↔ mget T x = some t) (hnd : ids.Nodup) (hmin : ∀ id t', mget T id = some t' → t ≤ t') : upTo t L = (srtd ids).map fun id => (t, id) := by
  refine sorted_eq (ha.srt.filter _) ?_ (fun x => ?_)
  · rw [List.pairwise_map]
    have h1 := srtd_sorted ids
    have h2 : (srtd ids).Nodup := (srtd_perm ids).nodup_iff.2 hnd
    refine (h1.and h2).imp (fun {a b} h => ?_)
    unfold lt2
    right
    exact ⟨rfl, by have := h.1; have := h.2; omega⟩
  · obtain ⟨a, b⟩ := x
    unfold upTo
    simp only [List.mem_filter, decide_eq_true_eq, List.mem_map, Prod.mk.injEq]
    rw [ha.mem hok.nd]
    constructor
    · rintro ⟨h1, h2⟩
      have := hmin b a h1
      have e : t = a := by omega
      subst e
      exact ⟨b, (srtd_perm ids).mem_iff.2 ((hids b).2 h1), rfl, rfl⟩
    · rintro ⟨c, hc, rfl, rfl⟩
      exact ⟨(hids _).1 ((srtd_perm ids).mem_iff.1 hc), Int.le_refl _⟩
theorem above_abs {now : Nat} {T L : List (Int × Int)} {t : Int} {ids : List Int} (hok : Ok now T) (ha : Abs T L) (hids : ∀ x, x ∈ ids ↔ mget T x = some t) (hmin : ∀ id t', mget T id = some t' → t ≤ t') : Abs (tdel T ids) (above t L) := by
  refine ⟨?_, ha.srt.filter _⟩
  have h1 := ha.perm.filter (fun e : Int × Int => decide (t < e.1))
  refine h1.trans ?_
  rw [List.filter_map, tdel_filter ids hok.nd]
  apply List.Perm.of_eq
  congr 1
  apply List.filter_congr
  intro e he
  simp only [Function.comp_apply, swp]
  have hg := mget_of_mem hok.nd (k := e.1) (v := e.2) he
  have hm := hmin e.1 e.2 hg
  have : e.1 ∉ ids ↔ t < e.2 := by
    rw [hids, hg, Option.some.injEq]
    omega
  exact decide_eq_decide.2 this.symm

theorem advance_spec (so : SortOK) {w0 w : World} {M : Nat → Prop} {p now : Nat} {L : List (Int × Int)} {hp r : HP} (hw : WheelAt p now L hp) (hs : St w0 M (hp ++ r) w) (to : Int) {K : Value → World → Prop}
    (k1 : to < now ∨ 1099511627776 < to → K (.tuple #[.slice none 0 0, .int .i64 2]) w)
    (k2 : ∀ tn : Nat, to = tn → now ≤ tn → tn ≤ 1099511627776 → ∀ v hv hp' w', OwnF v (upTo to L) hv → WheelAt p tn (above to L) hp' → St w0 M (hv ++ (hp' ++ r)) w' → K (.tuple #[v, .int .i64 0]) w') : F7 (.pointer (some ⟨p, 0, none⟩)) (.int .i64 to) w K := by
  unfold F7
  have hn0 : ldV false 1 w (.pointer (some ⟨p, 0, none⟩)) = some (.int .i64 now) := by
    obtain ⟨T, ⟨rs, ⟨m, hm, hr, ha⟩, hi⟩, _⟩ := hw
    exact ld_now (ha.has hs)
  try simp (disch := omega) only [pV_some, pE_some, pU_some, st_add, st_sub, st_mul, st_quo, st_rem, st_eql, st_neq, st_lss, st_leq, st_gtr, st_geq, st_seq, st_sneq, st_beq, st_bneq, st_not, st_neg, st_lenS, st_capS, st_lenT, st_fldA, st_conv, st_pick, st_ext0, st_ext1, st_ext2, st_ext3, st_nilS, st_nilP, st_nilF, st_nilE, st_nilN, st_none, st_some, st_true, st_false, nilC, add_lit, Nat.zero_add, Nat.add_zero, nth0, nth1, nth2, nth3, nth4, nth5, nth6, List.getElem?_cons_succ, List.getElem?_cons_zero, cond_true, cond_false, pSC_orp, pSC_andp, wrap_i64, Bool.not_true, Bool.not_false, hn0]
  refine pIf_of (fun h => k1 (by simp at h; omega)) (fun h => ?_)
  have h : (now : Int) ≤ to ∧ to ≤ 1099511627776 := by simp at h; omega
  obtain ⟨tn, rfl⟩ : ∃ n : Nat, to = n := ⟨to.toNat, by omega⟩
  have k2 := k2 tn rfl (by omega) (by omega)
  have hLlen : L.length ≤ 65536 := by
    obtain ⟨T, ⟨rs, _, hi⟩, ha⟩ := hw
    rw [ha.len]; exact hi.ok.keys
  refine ⟨fun m vs w' => ∃ (v : Value) (hv : HP) (now' : Nat) (L' : List (Int × Int)) (hp' : HP) (done : List (Int × Int)), vs = [v] ∧ m = L'.length ∧ L = done ++ L' ∧ (∀ e ∈ done, e.1 ≤ tn) ∧ now' ≤ tn ∧ OwnF v done hv ∧ WheelAt p now' L' hp' ∧ St w0 M (hv ++ (hp' ++ r)) w', L.length, ⟨_, [], now, L, hp, [], rfl, rfl, rfl, by simp, by omega, ownS_nil _ _, hw, hs⟩, ?_⟩
  clear hw hs hn0 hp
  rintro mm vs w1 ⟨v, hv, now', L', hp, done, rfl, rfl, rfl, hdone, hnow', hov, ⟨T, hwi, hab⟩, hs⟩
  have hok : Ok now' T := by obtain ⟨rs, _, hi⟩ := hwi; exact hi.ok
  have hs1 : St w0 M (hp ++ (hv ++ r)) w1 := hs.re (fun _ => by simp only [cnt_nil, cnt_cons, cnt_append]; omega)
  -- what is told and what is left
  have hup : ∀ (hall : ∀ e ∈ L', (tn : Int) < e.1), upTo tn (done ++ L') = done ∧ above tn (done ++ L') = L' := by
    intro hall
    unfold upTo above
    rw [List.filter_append, List.filter_append]
    rw [List.filter_eq_self.2 (fun e he => by simpa using hdone e he), List.filter_eq_nil_iff.2 (fun e he => by have := hall e he; simp; omega), List.append_nil]
    rw [List.filter_eq_nil_iff.2 (fun e he => by have := hdone e he; simp; omega), List.filter_eq_self.2 (fun e he => by simpa using hall e he), List.nil_append]
    exact ⟨rfl, rfl⟩
  have fin : ∀ w2, St w0 M (hp ++ (hv ++ r)) w2 → (∀ e ∈ L', (tn : Int) < e.1) → (∀ id t, mget T id = some t → (tn : Int) ≤ t) → pCall Try.prog 23 [.pointer (some ⟨p, 0, none⟩), .int .i64 (tn : Nat)] w2 fun _ w => K (.tuple #[v, .int .i64 0]) w := by
    intro w2 hs2 hall hall2
    refine F23_pc (move_spec hwi hs2 tn hnow' (by omega) hall2 (fun hp3 w3 hw3 hs3 => ?_))
    obtain ⟨e1, e2⟩ := hup hall
    rw [e1, e2] at k2
    exact k2 v hv hp3 w3 hov ⟨T, hw3, hab⟩ (hs3.re (fun _ => by simp only [cnt_nil, cnt_cons, cnt_append]; omega))
  refine F12_pc (next_spec hwi hs1 (fun hnone w2 hs2 => ?_) (fun t hex hmin w2 hs2 => ?_))
  · try simp (disch := omega) only [pV_some, pE_some, pU_some, st_add, st_sub, st_mul, st_quo, st_rem, st_eql, st_neq, st_lss, st_leq, st_gtr, st_geq, st_seq, st_sneq, st_beq, st_bneq, st_not, st_neg, st_lenS, st_capS, st_lenT, st_fldA, st_conv, st_pick, st_ext0, st_ext1, st_ext2, st_ext3, st_nilS, st_nilP, st_nilF, st_nilE, st_nilN, st_none, st_some, st_true, st_false, nilC, add_lit, Nat.zero_add, Nat.add_zero, nth0, nth1, nth2, nth3, nth4, nth5, nth6, List.getElem?_cons_succ, List.getElem?_cons_zero, cond_true, cond_false, pSC_orp, pSC_andp, wrap_i64, Bool.not_true, Bool.not_false]
    have hLnil : ∀ e ∈ L', False := fun e he => by
      have := (hab.mem hok.nd (t := e.1) (id := e.2)).1 he
      rw [hnone] at this; cases this
    refine pIf_of (fun _ => ?_) (fun h => by simp at h)
    exact fin w2 hs2 (fun e he => (hLnil e he).elim) (fun id t hg => by rw [hnone] at hg; cases hg)
  · try simp (disch := omega) only [pV_some, pE_some, pU_some, st_add, st_sub, st_mul, st_quo, st_rem, st_eql, st_neq, st_lss, st_leq, st_gtr, st_geq, st_seq, st_sneq, st_beq, st_bneq, st_not, st_neg, st_lenS, st_capS, st_lenT, st_fldA, st_conv, st_pick, st_ext0, st_ext1, st_ext2, st_ext3, st_nilS, st_nilP, st_nilF, st_nilE, st_nilN, st_none, st_some, st_true, st_false, nilC, add_lit, Nat.zero_add, Nat.add_zero, nth0, nth1, nth2, nth3, nth4, nth5, nth6, List.getElem?_cons_succ, List.getElem?_cons_zero, cond_true, cond_false, pSC_orp, pSC_andp, wrap_i64, Bool.not_true, Bool.not_false]
    have hLmin : ∀ e ∈ L', t ≤ e.1 := fun e he => hmin e.2 e.1 ((hab.mem hok.nd).1 he)
    refine pIf_of (fun h => ?_) (fun h => ?_)
    · have h : (tn : Int) < t := by simp at h; omega
      exact fin w2 hs2 (fun e he => by have := hLmin e he; omega) (fun id t' hg => by have := hmin id t' hg; omega)
    have h : t ≤ (tn : Int) := by simp at h; omega
    obtain ⟨id0, hg0⟩ := hex
    have ht0 := hok.t id0 t hg0
    obtain ⟨u, rfl⟩ : ∃ n : Nat, t = n := ⟨t.toNat, by omega⟩
    refine F23_pc (move_spec hwi hs2 u (by omega) (by omega) hmin (fun hp3 w3 hw3 hs3 => ?_))
    obtain ⟨rs, hmem, hi⟩ := hw3
    have hok3 := hi.ok
    refine F24_pc (slot_spec hmem hs3 u (by omega) (by omega) (fun w4 hs4 _ => ?_))
    obtain ⟨m, hm, hr, ha⟩ := hmem
    have hj : slot u u < 448 := slot_lt (by omega) (by omega)
    obtain ⟨q, kq, g, hq, hown, hs5, hput⟩ := ha.focus hs4 hj
    have hq2 : (rs.map (·.2))[slot u u]? = some q.2 := by rw [List.getElem?_map, hq]; rfl
    obtain ⟨hnd, hpos⟩ := hi.pl.2 _ _ hq2
    have hids : ∀ x, x ∈ q.2 ↔ mget T x = some (u : Int) := by
      intro x
      rw [hpos]
      unfold posT
      cases hg : mget T x with
      | none => simp
      | some t' =>
        have ht' := hok3.t x t' hg
        simp only [Option.map_some, Option.some.injEq]
        constructor
        · intro h; have := slot_now h; omega
        · intro h; rw [h]; simp
    have hqlen := hi.len q (List.mem_of_getElem? hq)
    have hqne : q.2 ≠ [] := fun he => by
      have := (hids id0).2 hg0
      rw [he] at this; cases this
    try simp (disch := omega) only [pV_some, pE_some, pU_some, st_add, st_sub, st_mul, st_quo, st_rem, st_eql, st_neq, st_lss, st_leq, st_gtr, st_geq, st_seq, st_sneq, st_beq, st_bneq, st_not, st_neg, st_lenS, st_capS, st_lenT, st_fldA, st_conv, st_pick, st_ext0, st_ext1, st_ext2, st_ext3, st_nilS, st_nilP, st_nilF, st_nilE, st_nilN, st_none, st_some, st_true, st_false, nilC, add_lit, Nat.zero_add, Nat.add_zero, nth0, nth1, nth2, nth3, nth4, nth5, nth6, List.getElem?_cons_succ, List.getElem?_cons_zero, cond_true, cond_false, pSC_orp, pSC_andp, wrap_i64, Bool.not_true, Bool.not_false, ld_ring (ha.has hs4) hq]
    have hs6 : St w0 M ((p, ⟨wCells u m rs, (.t 64)⟩) :: (kq ++ (hm ++ (g ++ (hv ++ r))))) w4 := hs5.re (fun _ => by simp only [cnt_nil, cnt_cons, cnt_append]; omega)
    refine ring_put (T := T) (hm := hm) (hr := hr) hs6 (by rw [ha.l]; exact hj) rfl [] (fun w7 hs7 => ?_)
    have hR7 : OwnAll ROwn (rs.set (slot u u) (.slice none 0 0, [])) ([] ++ g) := hput _ [] [] (ownS_nil _ _)
    have hpl7 : Pl ((rs.set (slot u u) (.slice none 0 0, [])).map (·.2)) (posT u (tdel T (srtd q.2))) := by
      rw [List.map_set]
      refine (hi.pl.clear (slot u u)).congr (fun x => ?_)
      have hx : posT u T x = some (slot u u) ↔ x ∈ srtd q.2 := by rw [(srtd_perm q.2).mem_iff, hpos]
      have e : posT u (tdel T (srtd q.2)) x = if x ∈ srtd q.2 then none else posT u T x := by
        unfold posT
        rw [tdel_get hok3.nd]
        split <;> rfl
      rw [e]
      by_cases hc : x ∈ srtd q.2
      · rw [if_pos hc, if_pos (hx.2 hc)]
      · rw [if_neg hc, if_neg (fun h => hc (hx.1 h))]
    have hs8 : St w0 M (kq ++ ((p, ⟨wCells u m (rs.set (slot u u) (.slice none 0 0, [])), (.t 64)⟩) :: (hm ++ (g ++ (hv ++ r))))) w7 := hs7.re (fun _ => by simp only [cnt_nil, cnt_cons, cnt_append]; omega)
    refine sort_spec so hown hs8 hqne hqlen (fun kq9 w9 hown9 hs9 => ?_)
    have hsl := srtd_len q.2
    have hlenq : lenS q.1 = some (.int .i64 q.2.length) := hown.len
    try simp (disch := omega) only [pV_some, pE_some, pU_some, st_add, st_sub, st_mul, st_quo, st_rem, st_eql, st_neq, st_lss, st_leq, st_gtr, st_geq, st_seq, st_sneq, st_beq, st_bneq, st_not, st_neg, st_lenS, st_capS, st_lenT, st_fldA, st_conv, st_pick, st_ext0, st_ext1, st_ext2, st_ext3, st_nilS, st_nilP, st_nilF, st_nilE, st_nilN, st_none, st_some, st_true, st_false, nilC, add_lit, Nat.zero_add, Nat.add_zero, nth0, nth1, nth2, nth3, nth4, nth5, nth6, List.getElem?_cons_succ, List.getElem?_cons_zero, cond_true, cond_false, pSC_orp, pSC_andp, wrap_i64, Bool.not_true, Bool.not_false, hlenq]
    refine pLoop_up (I := fun i vs w' => ∃ (v : Value) (hv hm : HP), vs = [v, .int .i64 (i : Nat)] ∧ OwnF v (done ++ ((srtd q.2).take i).map fun id => ((u : Int), id)) hv ∧ OwnMap m (tdel T ((srtd q.2).take i)) hm ∧ St w0 M (hv ++ (hm ++ ((p, ⟨wCells u m (rs.set (slot u u) (.slice none 0 0, [])), (.t 64)⟩) :: (kq9 ++ (g ++ r))))) w') q.2.length 0 (Nat.zero_le _) ⟨v, hv, hm, rfl, by simpa using hov, by simpa [tdel] using ha.m, hs9.re (fun _ => by simp only [cnt_nil, cnt_cons, cnt_append]; omega)⟩ ?_
    clear hs9 hs8 hs7 hs6 hs5 hs4 hs3 hs2 hs1 hs fin hov
    rintro i vs w10 hi10 ⟨v10, hv10, hm10, rfl, hov10, hom10, hs10⟩ go hgo
    try simp (disch := omega) only [pV_some, pE_some, pU_some, st_add, st_sub, st_mul, st_quo, st_rem, st_eql, st_neq, st_lss, st_leq, st_gtr, st_geq, st_seq, st_sneq, st_beq, st_bneq, st_not, st_neg, st_lenS, st_capS, st_lenT, st_fldA, st_conv, st_pick, st_ext0, st_ext1, st_ext2, st_ext3, st_nilS, st_nilP, st_nilF, st_nilE, st_nilN, st_none, st_some, st_true, st_false, nilC, add_lit, Nat.zero_add, Nat.add_zero, nth0, nth1, nth2, nth3, nth4, nth5, nth6, List.getElem?_cons_succ, List.getElem?_cons_zero, cond_true, cond_false, pSC_orp, pSC_andp, wrap_i64, Bool.not_true, Bool.not_false]
    refine pIf_of (fun hlt => ?_) (fun hlt => ?_)
    · have hlt : i < (srtd q.2).length := by simp at hlt; omega
      have hx := List.getElem?_eq_getElem hlt
      have hrd : RdC w10 1 q.1 (srtd q.2).length (ints (srtd q.2)) := OwnS.reads (h := hv10 ++ (hm10 ++ ((p, ⟨wCells u m (rs.set (slot u u) (.slice none 0 0, [])), (.t 64)⟩) :: (g ++ r)))) hown9 (hs10.re (fun _ => by simp only [cnt_nil, cnt_cons, cnt_append]; omega))
      obtain ⟨ad, j1, c1⟩ := hrd.at1 (ints_at hx) (x := i) rfl
      try simp (disch := omega) only [pV_some, pE_some, pU_some, st_add, st_sub, st_mul, st_quo, st_rem, st_eql, st_neq, st_lss, st_leq, st_gtr, st_geq, st_seq, st_sneq, st_beq, st_bneq, st_not, st_neg, st_lenS, st_capS, st_lenT, st_fldA, st_conv, st_pick, st_ext0, st_ext1, st_ext2, st_ext3, st_nilS, st_nilP, st_nilF, st_nilE, st_nilN, st_none, st_some, st_true, st_false, nilC, add_lit, Nat.zero_add, Nat.add_zero, nth0, nth1, nth2, nth3, nth4, nth5, nth6, List.getElem?_cons_succ, List.getElem?_cons_zero, cond_true, cond_false, pSC_orp, pSC_andp, wrap_i64, Bool.not_true, Bool.not_false, j1, ld1r c1]
      refine pV_eq (show _ = some (frV ((u : Int), (srtd q.2)[i])) from rfl) ?_
      have hdl : done.length ≤ 65536 := by rw [List.length_append] at hLlen; omega
      refine app_fr (e := ((u : Int), (srtd q.2)[i])) hov10 hs10 (by simp; omega) (fun v11 hv11 w11 hov11 hs11 => ?_)
      have hW : Has w11 p ⟨wCells u m (rs.set (slot u u) (.slice none 0 0, [])), (.t 64)⟩ := hs11.has (p, _) (by simp)
      try simp (disch := omega) only [pV_some, pE_some, pU_some, st_add, st_sub, st_mul, st_quo, st_rem, st_eql, st_neq, st_lss, st_leq, st_gtr, st_geq, st_seq, st_sneq, st_beq, st_bneq, st_not, st_neg, st_lenS, st_capS, st_lenT, st_fldA, st_conv, st_pick, st_ext0, st_ext1, st_ext2, st_ext3, st_nilS, st_nilP, st_nilF, st_nilE, st_nilN, st_none, st_some, st_true, st_false, nilC, add_lit, Nat.zero_add, Nat.add_zero, nth0, nth1, nth2, nth3, nth4, nth5, nth6, List.getElem?_cons_succ, List.getElem?_cons_zero, cond_true, cond_false, pSC_orp, pSC_andp, wrap_i64, Bool.not_true, Bool.not_false, ld_map hW]
      have hs12 : St w0 M (hm10 ++ (hv11 ++ ((p, ⟨wCells u m (rs.set (slot u u) (.slice none 0 0, [])), (.t 64)⟩) :: (kq9 ++ (g ++ r))))) w11 := hs11.re (fun _ => by simp only [cnt_nil, cnt_cons, cnt_append]; omega)
      refine mdel_spec ty_map hom10 hs12 (srtd q.2)[i] (fun hm13 w13 hom13 hs13 => ?_)
      try simp (disch := omega) only [pV_some, pE_some, pU_some, st_add, st_sub, st_mul, st_quo, st_rem, st_eql, st_neq, st_lss, st_leq, st_gtr, st_geq, st_seq, st_sneq, st_beq, st_bneq, st_not, st_neg, st_lenS, st_capS, st_lenT, st_fldA, st_conv, st_pick, st_ext0, st_ext1, st_ext2, st_ext3, st_nilS, st_nilP, st_nilF, st_nilE, st_nilN, st_none, st_some, st_true, st_false, nilC, add_lit, Nat.zero_add, Nat.add_zero, nth0, nth1, nth2, nth3, nth4, nth5, nth6, List.getElem?_cons_succ, List.getElem?_cons_zero, cond_true, cond_false, pSC_orp, pSC_andp, wrap_i64, Bool.not_true, Bool.not_false]
      refine hgo _ _ (by omega) ⟨v11, hv11, hm13, by simp, ?_, ?_, hs13.re (fun _ => by simp only [cnt_nil, cnt_cons, cnt_append]; omega)⟩
      · rw [List.take_add_one, hx, List.map_append, ← List.append_assoc]; exact hov11
      · rw [List.take_add_one, hx]
        unfold tdel at hom13 ⊢
        rw [List.foldl_append]; exact hom13
    · obtain rfl : i = q.2.length := by simp at hlt; omega
      rw [← hsl, List.take_length] at hov10 hom10
      have hsplit := split_sorted (u : Int) hab.srt
      have hgrp := group_eq hok3 hab hids hnd hmin
      have hids' : ∀ x, x ∈ srtd q.2 ↔ mget T x = some (u : Int) := fun x => by rw [(srtd_perm q.2).mem_iff]; exact hids x
      have habv := above_abs hok3 hab hids' hmin
      have hgne : 0 < (upTo (u : Int) L').length := by rw [hgrp, List.length_map, hsl]; exact List.length_pos_iff.2 hqne
      refine ⟨(above (u : Int) L').length, ?_, v10, hv10, u, above (u : Int) L', (p, ⟨wCells u m (rs.set (slot u u) (.slice none 0 0, [])), (.t 64)⟩) :: (hm10 ++ ([] ++ g)), done ++ upTo (u : Int) L', rfl, rfl, ?_, ?_, by omega, ?_, ⟨_, ⟨_, ⟨m, hm10, _, hom10, hR7, by simp [ha.l], fun _ => rfl⟩, hok3.tdel _, hpl7⟩, habv⟩, hs10.re (fun _ => by simp only [cnt_nil, cnt_cons, cnt_append]; omega)⟩
      · have := congrArg List.length hsplit
        rw [List.length_append] at this
        omega
      · rw [List.append_assoc, ← hsplit]
      · intro e he
        rcases List.mem_append.1 he with h' | h'
        · exact hdone e h'
        · unfold upTo at h'
          have := (List.mem_filter.1 h').2
          simp at this; omega
      · rw [hgrp]; exact hov10
end Go.Proofs.Ytbbjljhbiaeadaa
