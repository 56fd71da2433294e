/- wheel: move. -/
import Derived.Test.YtbbjljhbiaeadaaWhD
set_option linter.unusedSimpArgs false
set_option linter.unusedVariables false
set_option maxRecDepth 100000
namespace Go.Proofs.Ytbbjljhbiaeadaa
open Go.Bk Go.RowKit

/-- While a ring's ids are laid anew. -/
noncomputable def posK (now to L : Nat) (T : List (Int × Int)) (ids : List Int) (k : Nat) (x : Int) : Option Nat :=
  if posL now to L T x = some (L * 64 + dig to L) then (if x ∈ ids.take k then (mget T x).map (fun t => slot to t.toNat) else none) else posL now to L T x

theorem posK_end {now to L : Nat} {T : List (Int × Int)} (h1 : now ≤ to) (h3 : ∀ id t, mget T id = some t → (to : Int) ≤ t) (hL : 1 ≤ L) {ids : List Int} (hids : ∀ x, x ∈ ids ↔ posL now to L T x = some (L * 64 + dig to L)) (x : Int) :
    posL now to (L - 1) T x = posK now to L T ids ids.length x := by
  unfold posK
  rw [List.take_length]
  cases hg : mget T x with
  | none =>
    have e : ∀ L, posL now to L T x = none := fun L => by unfold posL; rw [hg]; rfl
    rw [e, e]; simp
  | some t =>
    have ht := h3 x t hg
    have e : ∀ L, posL now to L T x = some (if L < lev now t.toNat then slot to t.toNat else slot now t.toNat) := fun L => by unfold posL; rw [hg]; rfl
    have hst := pos_step (now := now) (to := to) (t := t.toNat) (L := L) h1 (by omega) hL
    rw [e (L - 1), hst]
    by_cases hp : posL now to L T x = some (L * 64 + dig to L)
    · rw [if_pos hp, if_pos ((hids x).2 hp)]
      rw [e L, Option.some.injEq] at hp
      rw [if_pos hp]
      rfl
    · rw [if_neg hp]
      have hp2 : ¬ (if L < lev now t.toNat then slot to t.toNat else slot now t.toNat) = L * 64 + dig to L := fun h => hp (by rw [e L, h])
      rw [if_neg hp2, e L]

theorem move_spec {w0 w : World} {M : Nat → Prop} {p now : Nat} {T : List (Int × Int)} {hp r : HP} (hw : WInv p now T hp) (hs : St w0 M (hp ++ r) w) (to : Nat) (h1 : now ≤ to) (h2 : to ≤ 1099511627776) (h3 : ∀ id t, mget T id = some t → (to : Int) ≤ t) {K : Value → World → Prop}
    (k : ∀ hp' w', WInv p to T hp' → St w0 M (hp' ++ r) w' → K (.tuple #[]) w') : F23 (.pointer (some ⟨p, 0, none⟩)) (.int .i64 to) w K := by
  unfold F23
  obtain ⟨rs, ⟨m, hm, hr, ha⟩, hi⟩ := hw
  have hok := hi.ok
  have hokt : Ok to T := ⟨hok.nd, hok.id, fun id t h => ⟨h3 id t h, (hok.t id t h).2⟩, h2⟩
  have hposT : ∀ L x j, posL now to L T x = some j → mget T x ≠ none := fun L x j h he => by unfold posL at h; rw [he] at h; cases h
  try simp (disch := omega) only [pV_some, pE_some, pU_some, st_add, st_sub, st_mul, st_quo, st_rem, st_eql, st_neq, st_lss, st_leq, st_gtr, st_geq, st_seq, st_sneq, st_beq, st_bneq, st_not, st_neg, st_lenS, st_capS, st_lenT, st_fldA, st_conv, st_pick, st_ext0, st_ext1, st_ext2, st_ext3, st_nilS, st_nilP, st_nilF, st_nilE, st_nilN, st_none, st_some, st_true, st_false, nilC, add_lit, Nat.zero_add, Nat.add_zero, nth0, nth1, nth2, nth3, nth4, nth5, nth6, List.getElem?_cons_succ, List.getElem?_cons_zero, cond_true, cond_false, pSC_orp, pSC_andp, wrap_i64, Bool.not_true, Bool.not_false]
  refine pU_set (ha.st hs) rfl (wCells to m rs) (by simp [wCells]) (by simp [wCells]) (fun w1 hs1 _ => ?_)
  have hw1 : WMem p to T rs ((p, ⟨wCells to m rs, (.t 64)⟩) :: (hm ++ hr)) := ⟨m, hm, hr, ha.m, ha.r, ha.l, fun _ => rfl⟩
  have hpl0 : Pl (rs.map (·.2)) (posL now to 6 T) := hi.pl.congr (fun x => by
    unfold posL posT
    cases hg : mget T x with
    | none => rfl
    | some t =>
      have ht := hok.t x t hg
      have hn := hok.n
      simp only [Option.map_some, Option.some.injEq]
      exact pos_first (by have := lev_lt (now := now) (t := t.toNat) (by omega) (by omega); omega))
  refine pLoop_up (I := fun i vs w' => ∃ (rs : List Rg) (hp : HP), vs = [.int .i64 (i : Nat)] ∧ WMem p to T rs hp ∧ Pl (rs.map (·.2)) (posL now to (6 - i) T) ∧ St w0 M (hp ++ r) w') 6 0 (by omega) ⟨rs, _, rfl, hw1, hpl0, hs1.re (fun _ => by simp only [cnt_nil, cnt_cons, cnt_append]; omega)⟩ ?_
  clear hs hs1 hpl0 hw1 ha hi
  rintro i vs w2 hi6 ⟨rs, hp, rfl, hw2, hpl, hs2⟩ go hgo
  try simp (disch := omega) only [pV_some, pE_some, pU_some, st_add, st_sub, st_mul, st_quo, st_rem, st_eql, st_neq, st_lss, st_leq, st_gtr, st_geq, st_seq, st_sneq, st_beq, st_bneq, st_not, st_neg, st_lenS, st_capS, st_lenT, st_fldA, st_conv, st_pick, st_ext0, st_ext1, st_ext2, st_ext3, st_nilS, st_nilP, st_nilF, st_nilE, st_nilN, st_none, st_some, st_true, st_false, nilC, add_lit, Nat.zero_add, Nat.add_zero, nth0, nth1, nth2, nth3, nth4, nth5, nth6, List.getElem?_cons_succ, List.getElem?_cons_zero, cond_true, cond_false, pSC_orp, pSC_andp, wrap_i64, Bool.not_true, Bool.not_false]
  refine pIf_of (fun hlt => ?_) (fun hlt => ?_)
  · have hlt : i < 6 := by simp at hlt; omega
    refine pDraw_st hs2 (fun w3 hs3 _ => ?_)
    have e6 : (6 : Int) - (i : Int) = ((6 - i : Nat) : Int) := by omega
    rw [e6]
    obtain ⟨L, hL⟩ : ∃ L, 6 - i = L := ⟨_, rfl⟩
    rw [hL] at hpl ⊢
    refine F26_pc (digit_spec to L (by omega) (by omega) ?_)
    have hd := dig_lt to L
    have hj : L * 64 + dig to L < 448 := by omega
    have i1 : ∀ o : Nat, idxA 64 7 (.pointer (some ⟨p, o, none⟩)) (.int .i64 ((L : Nat) : Int)) = some (.pointer (some ⟨p, o + L * 64, none⟩)) := fun o => by
      simp only [idxA]; rw [if_pos (by omega), add_lit]; simp
    have i2 : ∀ o : Nat, idxA 1 64 (.pointer (some ⟨p, o, none⟩)) (.int .i64 ((dig to L : Nat) : Int)) = some (.pointer (some ⟨p, o + dig to L, none⟩)) := fun o => by
      simp only [idxA]; rw [if_pos (by omega), add_lit]; simp
    have e3 : ∀ K : Nat → Prop, K (2 + (L * 64 + dig to L)) → K (2 + L * 64 + dig to L) := fun K h => by rw [Nat.add_assoc]; exact h
    obtain ⟨m, hm, hr, ha⟩ := hw2
    obtain ⟨q, kq, g, hq, hown, hs4, hput⟩ := ha.focus hs3 hj
    have hld := ld_ring (ha.has hs3) hq
    rw [← Nat.add_assoc] at hld
    try simp (disch := omega) only [pV_some, pE_some, pU_some, st_add, st_sub, st_mul, st_quo, st_rem, st_eql, st_neq, st_lss, st_leq, st_gtr, st_geq, st_seq, st_sneq, st_beq, st_bneq, st_not, st_neg, st_lenS, st_capS, st_lenT, st_fldA, st_conv, st_pick, st_ext0, st_ext1, st_ext2, st_ext3, st_nilS, st_nilP, st_nilF, st_nilE, st_nilN, st_none, st_some, st_true, st_false, nilC, add_lit, Nat.zero_add, Nat.add_zero, nth0, nth1, nth2, nth3, nth4, nth5, nth6, List.getElem?_cons_succ, List.getElem?_cons_zero, cond_true, cond_false, pSC_orp, pSC_andp, wrap_i64, Bool.not_true, Bool.not_false, i1, i2, hld]
    have hq2 : (rs.map (·.2))[L * 64 + dig to L]? = some q.2 := by rw [List.getElem?_map, hq]; rfl
    obtain ⟨hnd, hids⟩ := hpl.2 _ _ hq2
    have hqlen := hpl.len hokt (hposT L) hq2
    have hs5 : St w0 M ((p, ⟨wCells to m rs, (.t 64)⟩) :: (hm ++ (g ++ (kq ++ r)))) w3 := hs4.re (fun _ => by simp only [cnt_nil, cnt_cons, cnt_append]; omega)
    refine e3 (fun o => pU (stE 1 (.pointer (some ⟨p, o, none⟩)) (.slice none 0 0) w3) _) (ring_put (T := T) (hm := hm) (hr := hr) hs5 (by rw [ha.l]; exact hj) rfl [] (fun w6 hs6 => ?_))
    have hR6 : OwnAll ROwn (rs.set (L * 64 + dig to L) (.slice none 0 0, [])) ([] ++ g) := hput _ [] [] (ownS_nil _ _)
    have hw6 : WMem p to T (rs.set (L * 64 + dig to L) (.slice none 0 0, [])) ((p, ⟨wCells to m (rs.set (L * 64 + dig to L) (.slice none 0 0, [])), (.t 64)⟩) :: (hm ++ ([] ++ g))) := ⟨m, hm, _, ha.m, hR6, by simp [ha.l], fun _ => rfl⟩
    have hpl6 : Pl ((rs.set (L * 64 + dig to L) (.slice none 0 0, [])).map (·.2)) (posK now to L T q.2 0) := by
      rw [List.map_set]
      refine (hpl.clear (L * 64 + dig to L)).congr (fun x => ?_)
      unfold posK
      simp
    try simp (disch := omega) only [pV_some, pE_some, pU_some, st_add, st_sub, st_mul, st_quo, st_rem, st_eql, st_neq, st_lss, st_leq, st_gtr, st_geq, st_seq, st_sneq, st_beq, st_bneq, st_not, st_neg, st_lenS, st_capS, st_lenT, st_fldA, st_conv, st_pick, st_ext0, st_ext1, st_ext2, st_ext3, st_nilS, st_nilP, st_nilF, st_nilE, st_nilN, st_none, st_some, st_true, st_false, nilC, add_lit, Nat.zero_add, Nat.add_zero, nth0, nth1, nth2, nth3, nth4, nth5, nth6, List.getElem?_cons_succ, List.getElem?_cons_zero, cond_true, cond_false, pSC_orp, pSC_andp, wrap_i64, Bool.not_true, Bool.not_false, hown.len]
    refine pLoop_up (I := fun k vs w' => ∃ (rs : List Rg) (hp : HP), vs = [.int .i64 (k : Nat)] ∧ WMem p to T rs hp ∧ Pl (rs.map (·.2)) (posK now to L T q.2 k) ∧ St w0 M (hp ++ (kq ++ r)) w') q.2.length 0 (Nat.zero_le _) ⟨_, _, rfl, hw6, hpl6, hs6.re (fun _ => by simp only [cnt_nil, cnt_cons, cnt_append]; omega)⟩ ?_
    clear hw6 hpl6 hs6 hR6 hs5 hs4 hs3 hld hput hpl ha hq hq2
    rintro kk vs w7 hkk ⟨rs7, hp7, rfl, hw7, hpl7, hs7⟩ go2 hgo2
    try simp (disch := omega) only [pV_some, pE_some, pU_some, st_add, st_sub, st_mul, st_quo, st_rem, st_eql, st_neq, st_lss, st_leq, st_gtr, st_geq, st_seq, st_sneq, st_beq, st_bneq, st_not, st_neg, st_lenS, st_capS, st_lenT, st_fldA, st_conv, st_pick, st_ext0, st_ext1, st_ext2, st_ext3, st_nilS, st_nilP, st_nilF, st_nilE, st_nilN, st_none, st_some, st_true, st_false, nilC, add_lit, Nat.zero_add, Nat.add_zero, nth0, nth1, nth2, nth3, nth4, nth5, nth6, List.getElem?_cons_succ, List.getElem?_cons_zero, cond_true, cond_false, pSC_orp, pSC_andp, wrap_i64, Bool.not_true, Bool.not_false]
    refine pIf_of (fun hlt2 => ?_) (fun hlt2 => ?_)
    · have hlt2 : kk < q.2.length := by simpa using hlt2
      have hx := List.getElem?_eq_getElem hlt2
      have hrd : RdI w7 q.1 q.2 := OwnS.reads (h := hp7 ++ r) hown (hs7.re (fun _ => by simp only [cnt_nil, cnt_cons, cnt_append]; omega))
      obtain ⟨ad, j1, c1⟩ := hrd.at1 (ints_at hx) (x := kk) rfl
      have hpos : posL now to L T q.2[kk] = some (L * 64 + dig to L) := (hids _).1 (List.getElem_mem hlt2)
      obtain ⟨t, hgt⟩ : ∃ t, mget T q.2[kk] = some t := by
        cases hg : mget T q.2[kk] with
        | none => exact absurd hg (hposT _ _ _ hpos)
        | some t => exact ⟨t, rfl⟩
      have htr := hokt.t _ t hgt
      obtain ⟨tn, rfl⟩ : ∃ n : Nat, t = n := ⟨t.toNat, by omega⟩
      have hw7' := hw7
      obtain ⟨m7, hm7, hr7, ha7⟩ := hw7
      have hlk := (mget_spec ty_map ha7.m (ha7.map hs7) q.2[kk]).2
      rw [hgt] at hlk
      try simp (disch := omega) only [pV_some, pE_some, pU_some, st_add, st_sub, st_mul, st_quo, st_rem, st_eql, st_neq, st_lss, st_leq, st_gtr, st_geq, st_seq, st_sneq, st_beq, st_bneq, st_not, st_neg, st_lenS, st_capS, st_lenT, st_fldA, st_conv, st_pick, st_ext0, st_ext1, st_ext2, st_ext3, st_nilS, st_nilP, st_nilF, st_nilE, st_nilN, st_none, st_some, st_true, st_false, nilC, add_lit, Nat.zero_add, Nat.add_zero, nth0, nth1, nth2, nth3, nth4, nth5, nth6, List.getElem?_cons_succ, List.getElem?_cons_zero, cond_true, cond_false, pSC_orp, pSC_andp, wrap_i64, Bool.not_true, Bool.not_false, j1, ld1r c1, ld_map (ha7.has hs7), hlk, Option.getD_some]
      have hnotin : q.2[kk] ∉ q.2.take kk := by
        intro hm
        obtain ⟨i', hi', he⟩ := List.getElem_of_mem hm
        have hi2 : i' < kk := by simp at hi'; omega
        rw [List.getElem_take] at he
        have := (List.getElem_inj (h₀ := by omega) (h₁ := hlt2) hnd).1 he
        omega
      have hpn : posK now to L T q.2 kk q.2[kk] = none := by
        unfold posK
        rw [if_pos hpos, if_neg hnotin]
      have hlen7 : ∀ z ∈ rs7, z.2.length ≤ 4398046511104 := by
        intro z hz
        obtain ⟨jz, hjz⟩ := List.getElem?_of_mem hz
        have := hpl7.len hokt (fun x j hxj => by
          unfold posK at hxj
          split at hxj
          · rename_i h; exact hposT _ _ _ h
          · exact hposT _ _ _ hxj) (j := jz) (l := z.2) (by rw [List.getElem?_map, hjz]; rfl)
        omega
      refine F27_pc (lay_spec hw7' hs7 q.2[kk] tn (by omega) (by omega) hlen7 (fun v' z hp8 w8 hz hw8 hs8 => ?_))
      rw [mput_same hgt] at hw8
      refine hgo2 _ _ hlt2 ⟨_, hp8, by simp, hw8, ?_, hs8⟩
      rw [List.map_set]
      refine (hpl7.add (l := z.2) (by rw [List.getElem?_map, hz]; rfl) hpn).congr (fun x => ?_)
      have hmem : ∀ x, x ∈ q.2.take (kk + 1) ↔ (x ∈ q.2.take kk ∨ x = q.2[kk]) := fun x => by rw [List.take_add_one, hx]; simp only [Option.toList_some, List.mem_append, List.mem_singleton]
      unfold posK
      by_cases hxe : x = q.2[kk]
      · rw [if_pos hxe, hxe, if_pos hpos, if_pos ((hmem _).2 (.inr rfl)), hgt]
        simp
      · rw [if_neg hxe]
        simp only [hmem, hxe, or_false]
    · obtain rfl : kk = q.2.length := by simp at hlt2; omega
      try simp (disch := omega) only [pV_some, pE_some, pU_some, st_add, st_sub, st_mul, st_quo, st_rem, st_eql, st_neq, st_lss, st_leq, st_gtr, st_geq, st_seq, st_sneq, st_beq, st_bneq, st_not, st_neg, st_lenS, st_capS, st_lenT, st_fldA, st_conv, st_pick, st_ext0, st_ext1, st_ext2, st_ext3, st_nilS, st_nilP, st_nilF, st_nilE, st_nilN, st_none, st_some, st_true, st_false, nilC, add_lit, Nat.zero_add, Nat.add_zero, nth0, nth1, nth2, nth3, nth4, nth5, nth6, List.getElem?_cons_succ, List.getElem?_cons_zero, cond_true, cond_false, pSC_orp, pSC_andp, wrap_i64, Bool.not_true, Bool.not_false]
      refine hgo _ _ hlt ⟨rs7, hp7, by simp, hw7, ?_, hs7.re (fun _ => by simp only [cnt_nil, cnt_cons, cnt_append]; omega)⟩
      rw [show 6 - (i + 1) = L - 1 by omega]
      exact hpl7.congr (fun x => posK_end h1 h3 (by omega) hids x)
  · obtain rfl : i = 6 := by simp at hlt; omega
    refine k hp w2 ⟨rs, hw2, hokt, ?_⟩ hs2
    refine hpl.congr (fun x => ?_)
    unfold posL posT
    cases hg : mget T x with
    | none => rfl
    | some t =>
      have ht := h3 x t hg
      simp only [Option.map_some, Option.some.injEq]
      exact (pos_last (now := now) (to := to) (t := t.toNat) h1 (by omega)).symm
end Go.Proofs.Ytbbjljhbiaeadaa
