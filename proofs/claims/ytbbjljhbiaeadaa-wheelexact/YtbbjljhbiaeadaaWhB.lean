/- wheel: a wheel in memory; digit, slot, lay. -/
import Derived.Test.YtbbjljhbiaeadaaWhA
import Derived.Test.YtbbjljhbiaeadaaBits
set_option linter.unusedSimpArgs false
set_option linter.unusedVariables false
set_option maxRecDepth 100000
namespace Go.Proofs.Ytbbjljhbiaeadaa
open Go.Bk Go.RowKit

theorem ty_int : SlTy Try.prog 23 3 1 8 (.int .i64 0) := ⟨by kernel_rfl, ⟨_, rfl, by kernel_rfl, by kernel_rfl, by kernel_rfl⟩, rfl, by omega⟩
theorem ty_map : MpTy Try.prog 60 3 3 := ⟨by kernel_rfl, by kernel_rfl, ⟨_, rfl, by kernel_rfl⟩⟩

def I (x : Int) : Value := .int .i64 x
def ints (l : List Int) : List Value := l.map I
theorem ints_len (l : List Int) : (ints l).length = l.length := by simp [ints]
theorem ints_at {l : List Int} {i : Nat} {x : Int} (h : l[i]? = some x) : (ints l)[i]? = some (.int .i64 x) := by simp [ints, h, I]
theorem ints_append (l r : List Int) : ints (l ++ r) = ints l ++ ints r := by simp [ints]
theorem ints_one (l : List Int) : ∀ u ∈ ints l, u.oneCell' = true := by
  intro u hu
  obtain ⟨x, _, rfl⟩ := List.mem_map.1 hu
  rfl
abbrev RdI (w : World) (s : Value) (d : List Int) : Prop := RdC w 1 s d.length (ints d)
abbrev OwnI (s : Value) (d : List Int) (hp : HP) : Prop := OwnS 3 1 s d.length (ints d) hp

/-- Numbers behind numbers of one's own. -/
theorem append_ints {w0 w : World} {M : Nat → Prop} {h hp : HP} {v x : Value} {xs l : List Int} {ty : TypeId} (ho : OwnI v xs hp) (hs : St w0 M (hp ++ h) w) (hv : RdI w x l) (hb : xs.length + l.length ≤ 8796093022208) {K : Value → World → Prop}
    (k : ∀ v' hp' w', OwnI v' (xs ++ l) hp' → St w0 M (hp' ++ h) w' → K v' w') : pE (semE Try.prog (Builtin.append_ #[23, 23] ty #[v, x]) w) K := by
  obtain ⟨hl, a, c, rfl, hc, h0, hcell⟩ := hv
  refine append_own ty_int ho hs (xa := a) (m := l.length) (news := ints l) rfl h0 hl hcell (ints_one l) (by simp [maxLen]; omega) (by omega) (fun v' hp' w' ho' hs' _ => ?_)
  rw [← ints_append, ← List.length_append] at ho'
  exact k v' hp' w' ho' hs'
/-- One number behind numbers of one's own. -/
theorem app_int {w0 w : World} {M : Nat → Prop} {h hp : HP} {v : Value} {xs : List Int} {c : Int} {ty : TypeId} (ho : OwnI v xs hp) (hs : St w0 M (hp ++ h) w) (hb : xs.length ≤ 4398046511104) {K : Value → World → Prop}
    (k : ∀ v' hp' w', OwnI v' (xs ++ [c]) hp' → St w0 M (hp' ++ h) w' → K v' w') : pE (mkE 3 1 [.int .i64 c] w) fun x w => pE (semE Try.prog (Builtin.append_ #[23, 23] ty #[v, x]) w) K := by
  refine pE_mkc hs [.int .i64 c] rfl (by simp [Value.cells]) (fun b w1 hs1 ht1 _ => ?_)
  have hB := hs1.top
  refine append_ints (l := [c]) (h := (b, ⟨[.int .i64 c], (.t 3)⟩) :: h) ho (hs1.re (fun _ => by simp only [cnt_nil, cnt_cons, cnt_append]; omega)) ⟨rfl, _, _, rfl, Nat.le_refl _, by simp, fun ad h => ?_⟩ (by simp; omega) (fun v' hp' w' ho' hs' => k v' hp' w' ho' (hs'.re (fun _ => by simp only [cnt_nil, cnt_cons, cnt_append]; omega)))
  cases h
  exact hB.cellsAt 0

/-- A wheel's cells; a wheel in memory: where it stands, its map, its rings. -/
abbrev Rg := Value × List Int
def ROwn (q : Rg) (k : HP) : Prop := OwnI q.1 q.2 k
def wCells (now m : Nat) (rs : List Rg) : List Value := .int .i64 now :: .map (some m) :: rs.map (·.1)
structure WMemAt (p now mb : Nat) (T : List (Int × Int)) (rs : List Rg) (hm hr hp : HP) : Prop where
  m : OwnMap mb T hm
  r : OwnAll ROwn rs hr
  l : rs.length = 448
  c : ∀ a, cnt a hp = cnt a ((p, ⟨wCells now mb rs, (.t 64)⟩) :: (hm ++ hr))
def WMem (p now : Nat) (T : List (Int × Int)) (rs : List Rg) (hp : HP) : Prop := ∃ m hm hr, WMemAt p now m T rs hm hr hp

theorem WMemAt.st {p now m : Nat} {T : List (Int × Int)} {rs : List Rg} {hm hr hp r : HP} (h : WMemAt p now m T rs hm hr hp) {w0 w : World} {M : Nat → Prop} (hs : St w0 M (hp ++ r) w) : St w0 M ((p, ⟨wCells now m rs, (.t 64)⟩) :: (hm ++ (hr ++ r))) w :=
  hs.re (fun a => by have := h.c a; simp only [cnt_cons, cnt_append] at this ⊢; omega)
theorem WMemAt.back {p now m : Nat} {T : List (Int × Int)} {rs : List Rg} {hm hr hp r : HP} (h : WMemAt p now m T rs hm hr hp) {w0 w : World} {M : Nat → Prop} (hs : St w0 M ((p, ⟨wCells now m rs, (.t 64)⟩) :: (hm ++ (hr ++ r))) w) : St w0 M (hp ++ r) w :=
  hs.re (fun a => by have := h.c a; simp only [cnt_cons, cnt_append] at this ⊢; omega)
theorem WMemAt.has {p now m : Nat} {T : List (Int × Int)} {rs : List Rg} {hm hr hp r : HP} (h : WMemAt p now m T rs hm hr hp) {w0 w : World} {M : Nat → Prop} (hs : St w0 M (hp ++ r) w) : Has w p ⟨wCells now m rs, (.t 64)⟩ := (h.st hs).top
theorem ld_now {w : World} {p now m : Nat} {rs : List Rg} (h : Has w p ⟨wCells now m rs, (.t 64)⟩) : ldV false 1 w (.pointer (some ⟨p, 0, none⟩)) = some (.int .i64 now) := by rw [h.ld]; rfl
theorem ld_map {w : World} {p now m : Nat} {rs : List Rg} (h : Has w p ⟨wCells now m rs, (.t 64)⟩) : ldV false 1 w (.pointer (some ⟨p, 1, none⟩)) = some (.map (some m)) := by rw [h.ld]; rfl
theorem ld_ring {w : World} {p now m : Nat} {rs : List Rg} (h : Has w p ⟨wCells now m rs, (.t 64)⟩) {j : Nat} {q : Rg} (hq : rs[j]? = some q) : ldV false 1 w (.pointer (some ⟨p, 2 + j, none⟩)) = some q.1 := by
  rw [h.ld]
  simp only [wCells]
  rw [show 2 + j = j + 1 + 1 by omega, List.getElem?_cons_succ, List.getElem?_cons_succ, List.getElem?_map, hq]; rfl

theorem and63 (a : Nat) (h : a < 9223372036854775808) : binV .and (.int .i64 a) (.int .i64 63) = some (.int .i64 ((a % 64 : Nat) : Int)) := by
  have h1 : binV .and (.int .i64 a) (.int .i64 63) = some (.int .i64 (IntKind.i64.wrap ((BitVec.ofInt 64 (a : Int) &&& BitVec.ofInt 64 ((63 : Nat) : Int)).toNat : Int))) := rfl
  have e : a &&& 63 = a % 64 := Nat.and_two_pow_sub_one_eq_mod a 6
  rw [h1, bv_and, Nat.mod_eq_of_lt (a := a) (by omega), Nat.mod_eq_of_lt (a := 63) (by omega), e, wrap_i64 (by omega) (by omega)]
theorem xor64 (a b : Nat) (ha : a < 4611686018427387904) (hb : b < 4611686018427387904) : binV .xor (.int .i64 a) (.int .i64 b) = some (.int .i64 ((a ^^^ b : Nat) : Int)) := by
  have h1 : binV .xor (.int .i64 a) (.int .i64 b) = some (.int .i64 (IntKind.i64.wrap ((BitVec.ofInt 64 (a : Int) ^^^ BitVec.ofInt 64 (b : Int)).toNat : Int))) := rfl
  have hx : a ^^^ b < 2 ^ 62 := Nat.xor_lt_two_pow (by omega) (by omega)
  rw [h1, bv_xor, Nat.mod_eq_of_lt (a := a) (by omega), Nat.mod_eq_of_lt (a := b) (by omega), wrap_i64 (by omega) (by omega)]

theorem digit_spec {w : World} (t l : Nat) (ht : t < 4611686018427387904) (hl : l ≤ 9) {K : Value → World → Prop} (k : K (.int .i64 ((dig t l : Nat) : Int)) w) : F26 (.int .i64 t) (.int .i64 l) w K := by
  unfold F26
  have e : (6 : Int) * (l : Int) = ((6 * l : Nat) : Int) := by omega
  try simp (disch := omega) only [pV_some, pE_some, pU_some, st_add, st_sub, st_mul, st_quo, st_rem, st_eql, st_neq, st_lss, st_leq, st_gtr, st_geq, st_seq, st_sneq, st_beq, st_bneq, st_not, st_neg, st_lenS, st_capS, st_lenT, st_fldA, st_conv, st_pick, st_ext0, st_ext1, st_ext2, st_ext3, st_nilS, st_nilP, st_nilF, st_nilE, st_nilN, st_none, st_some, st_true, st_false, nilC, add_lit, Nat.zero_add, Nat.add_zero, nth0, nth1, nth2, nth3, nth4, nth5, nth6, List.getElem?_cons_succ, List.getElem?_cons_zero, cond_true, cond_false, pSC_orp, pSC_andp, wrap_i64, Bool.not_true, Bool.not_false]
  rw [e]
  have hs := st_shr (k := .i64) (k' := .i64) (a := t) (b := 6 * l) (by simp [IntKind.bits]; omega)
  have hd : t / 2 ^ (6 * l) < 9223372036854775808 := Nat.lt_of_le_of_lt (Nat.div_le_self _ _) (by omega)
  have e2 : t / 2 ^ (6 * l) % 64 = dig t l := by unfold dig; rw [Nat.pow_mul]
  simp only [hs, and63 _ hd, pV_some, e2]
  exact k

theorem slot_spec {w0 w : World} {M : Nat → Prop} {p now : Nat} {T : List (Int × Int)} {rs : List Rg} {hp r : HP} (hw : WMem p now T rs hp) (hs : St w0 M (hp ++ r) w) (t : Nat) (hn : now < 4398046511104) (ht : t < 4398046511104) {K : Value → World → Prop}
    (k : ∀ w', St w0 M (hp ++ r) w' → Tr w no w' → K (.pointer (some ⟨p, 2 + slot now t, none⟩)) w') : F24 (.pointer (some ⟨p, 0, none⟩)) (.int .i64 t) w K := by
  unfold F24
  obtain ⟨m, hm, hr, ha⟩ := hw
  have hx : t ^^^ now < 2 ^ 42 := Nat.xor_lt_two_pow (by omega) (by omega)
  try simp (disch := omega) only [pV_some, pE_some, pU_some, st_add, st_sub, st_mul, st_quo, st_rem, st_eql, st_neq, st_lss, st_leq, st_gtr, st_geq, st_seq, st_sneq, st_beq, st_bneq, st_not, st_neg, st_lenS, st_capS, st_lenT, st_fldA, st_conv, st_pick, st_ext0, st_ext1, st_ext2, st_ext3, st_nilS, st_nilP, st_nilF, st_nilE, st_nilN, st_none, st_some, st_true, st_false, nilC, add_lit, Nat.zero_add, Nat.add_zero, nth0, nth1, nth2, nth3, nth4, nth5, nth6, List.getElem?_cons_succ, List.getElem?_cons_zero, cond_true, cond_false, pSC_orp, pSC_andp, wrap_i64, Bool.not_true, Bool.not_false, ld_now (ha.has hs), xor64 t now (by omega) (by omega), wrap_u64]
  rw [Nat.mod_eq_of_lt (show t ^^^ now < 18446744073709551616 by omega)]
  refine F36_pc ?_
  unfold F36
  refine pIf_false ?_
  refine F42_pc (len64_spec (t ^^^ now) (by omega) (fun n hn2 hn64 => ?_))
  have hlev : lev now t = (n - 1) / 6 := lev_eq (lev_code hn2)
  have e1 : max ((n : Int) - 1) 0 = ((n - 1 : Nat) : Int) := by omega
  have e2 : IntKind.i64.wrap (Int.tdiv ((n - 1 : Nat) : Int) 6) = ((lev now t : Nat) : Int) := by
    have : Int.tdiv ((n - 1 : Nat) : Int) 6 = (((n - 1) / 6 : Nat) : Int) := rfl
    rw [this, hlev, wrap_i64 (by omega) (by omega)]
  try simp (disch := omega) only [pV_some, pE_some, pU_some, st_add, st_sub, st_mul, st_quo, st_rem, st_eql, st_neq, st_lss, st_leq, st_gtr, st_geq, st_seq, st_sneq, st_beq, st_bneq, st_not, st_neg, st_lenS, st_capS, st_lenT, st_fldA, st_conv, st_pick, st_ext0, st_ext1, st_ext2, st_ext3, st_nilS, st_nilP, st_nilF, st_nilE, st_nilN, st_none, st_some, st_true, st_false, nilC, add_lit, Nat.zero_add, Nat.add_zero, nth0, nth1, nth2, nth3, nth4, nth5, nth6, List.getElem?_cons_succ, List.getElem?_cons_zero, cond_true, cond_false, pSC_orp, pSC_andp, wrap_i64, Bool.not_true, Bool.not_false, st_max, e1, st_quo (show (6 : Int) ≠ 0 by decide), e2]
  refine pDraw_st hs (fun w1 hs1 ht1 => ?_)
  have hl7 := lev_lt hn ht
  refine F26_pc (digit_spec t (lev now t) (by omega) (by omega) ?_)
  have hd := dig_lt t (lev now t)
  have i1 : ∀ o : Nat, idxA 64 7 (.pointer (some ⟨p, o, none⟩)) (.int .i64 ((lev now t : Nat) : Int)) = some (.pointer (some ⟨p, o + lev now t * 64, none⟩)) := fun o => by
    simp only [idxA]; rw [if_pos (by omega), add_lit]; simp
  have i2 : ∀ o : Nat, idxA 1 64 (.pointer (some ⟨p, o, none⟩)) (.int .i64 ((dig t (lev now t) : Nat) : Int)) = some (.pointer (some ⟨p, o + dig t (lev now t), none⟩)) := fun o => by
    simp only [idxA]; rw [if_pos (by omega), add_lit]; simp
  try simp (disch := omega) only [pV_some, pE_some, pU_some, st_add, st_sub, st_mul, st_quo, st_rem, st_eql, st_neq, st_lss, st_leq, st_gtr, st_geq, st_seq, st_sneq, st_beq, st_bneq, st_not, st_neg, st_lenS, st_capS, st_lenT, st_fldA, st_conv, st_pick, st_ext0, st_ext1, st_ext2, st_ext3, st_nilS, st_nilP, st_nilF, st_nilE, st_nilN, st_none, st_some, st_true, st_false, nilC, add_lit, Nat.zero_add, Nat.add_zero, nth0, nth1, nth2, nth3, nth4, nth5, nth6, List.getElem?_cons_succ, List.getElem?_cons_zero, cond_true, cond_false, pSC_orp, pSC_andp, wrap_i64, Bool.not_true, Bool.not_false, i1, i2]
  have e3 : 2 + lev now t * 64 + dig t (lev now t) = 2 + slot now t := by unfold slot; omega
  rw [e3]
  exact k w1 hs1 ht1

/-- A ring written anew. -/
theorem ring_put {w0 w : World} {M : Nat → Prop} {p now m j : Nat} {T : List (Int × Int)} {rs : List Rg} {hm hr r : HP} {v' : Value} (hs : St w0 M ((p, ⟨wCells now m rs, (.t 64)⟩) :: r) w) (hj : j < rs.length) (hv : oneC v' = true) (d : List Int) {K : World → Prop}
    (k : ∀ w', St w0 M ((p, ⟨wCells now m (rs.set j (v', d)), (.t 64)⟩) :: r) w' → K w') : pU (stE 1 (.pointer (some ⟨p, 2 + j, none⟩)) v' w) K := by
  refine pU_set hs hv (wCells now m (rs.set j (v', d))) ?_ ?_ (fun w' hs' _ => k w' hs')
  · simp only [wCells, List.length_cons, List.length_map]; omega
  · simp only [wCells]
    rw [show 2 + j = j + 1 + 1 by omega, List.set_cons_succ, List.set_cons_succ, List.map_set]

theorem lay_spec {w0 w : World} {M : Nat → Prop} {p now : Nat} {T : List (Int × Int)} {rs : List Rg} {hp r : HP} (hw : WMem p now T rs hp) (hs : St w0 M (hp ++ r) w) (id : Int) (t : Nat) (hn : now < 4398046511104) (ht : t < 4398046511104)
    (hb : ∀ q ∈ rs, q.2.length ≤ 4398046511104) {K : Value → World → Prop}
    (k : ∀ v' q hp' w', rs[slot now t]? = some q → WMem p now (mput T id t) (rs.set (slot now t) (v', q.2 ++ [id])) hp' → St w0 M (hp' ++ r) w' → K (.tuple #[]) w') : F27 (.pointer (some ⟨p, 0, none⟩)) (.int .i64 id) (.int .i64 t) w K := by
  unfold F27
  refine F24_pc (slot_spec hw hs t hn ht (fun w1 hs1 ht1 => ?_))
  obtain ⟨m, hm, hr, ha⟩ := hw
  have hlt : slot now t < rs.length := by rw [ha.l]; exact slot_lt hn ht
  have hq := List.getElem?_eq_getElem hlt
  obtain ⟨kq, g, hown, hcnt, hput⟩ := ha.r.focus hq
  have hs2 := ha.st hs1
  have hs3 : St w0 M (kq ++ ((p, ⟨wCells now m rs, (.t 64)⟩) :: (hm ++ (g ++ r)))) w1 := hs2.re (fun a => by have := hcnt a; simp only [cnt_cons, cnt_append] at this ⊢; omega)
  try simp (disch := omega) only [pV_some, pE_some, pU_some, st_add, st_sub, st_mul, st_quo, st_rem, st_eql, st_neq, st_lss, st_leq, st_gtr, st_geq, st_seq, st_sneq, st_beq, st_bneq, st_not, st_neg, st_lenS, st_capS, st_lenT, st_fldA, st_conv, st_pick, st_ext0, st_ext1, st_ext2, st_ext3, st_nilS, st_nilP, st_nilF, st_nilE, st_nilN, st_none, st_some, st_true, st_false, nilC, add_lit, Nat.zero_add, Nat.add_zero, nth0, nth1, nth2, nth3, nth4, nth5, nth6, List.getElem?_cons_succ, List.getElem?_cons_zero, cond_true, cond_false, pSC_orp, pSC_andp, wrap_i64, Bool.not_true, Bool.not_false, ld_ring hs2.top hq]
  refine app_int (c := id) hown hs3 (hb _ (List.getElem_mem hlt)) (fun v' k' w4 ho4 hs4 => ?_)
  have hs5 : St w0 M ((p, ⟨wCells now m rs, (.t 64)⟩) :: (k' ++ (hm ++ (g ++ r)))) w4 := hs4.re (fun _ => by simp only [cnt_nil, cnt_cons, cnt_append]; omega)
  refine ring_put (T := T) (hm := hm) (hr := hr) hs5 hlt ho4.one (rs[slot now t].2 ++ [id]) (fun w6 hs6 => ?_)
  try simp (disch := omega) only [pV_some, pE_some, pU_some, st_add, st_sub, st_mul, st_quo, st_rem, st_eql, st_neq, st_lss, st_leq, st_gtr, st_geq, st_seq, st_sneq, st_beq, st_bneq, st_not, st_neg, st_lenS, st_capS, st_lenT, st_fldA, st_conv, st_pick, st_ext0, st_ext1, st_ext2, st_ext3, st_nilS, st_nilP, st_nilF, st_nilE, st_nilN, st_none, st_some, st_true, st_false, nilC, add_lit, Nat.zero_add, Nat.add_zero, nth0, nth1, nth2, nth3, nth4, nth5, nth6, List.getElem?_cons_succ, List.getElem?_cons_zero, cond_true, cond_false, pSC_orp, pSC_andp, wrap_i64, Bool.not_true, Bool.not_false, ld_map hs6.top]
  have hs7 : St w0 M (hm ++ ((p, ⟨wCells now m (rs.set (slot now t) (v', rs[slot now t].2 ++ [id])), (.t 64)⟩) :: (k' ++ (g ++ r)))) w6 := hs6.re (fun _ => by simp only [cnt_nil, cnt_cons, cnt_append]; omega)
  refine mput_spec ty_map ha.m hs7 id t (fun hm' w8 hom hs8 => ?_)
  have hR := hput (v', rs[slot now t].2 ++ [id]) k' ho4
  refine k v' rs[slot now t] ((p, ⟨wCells now m (rs.set (slot now t) (v', rs[slot now t].2 ++ [id])), (.t 64)⟩) :: (hm' ++ (k' ++ g))) w8 hq ⟨m, hm', k' ++ g, hom, hR, by simp [ha.l], fun a => rfl⟩ (hs8.re (fun _ => by simp only [cnt_nil, cnt_cons, cnt_append]; omega))
end Go.Proofs.Ytbbjljhbiaeadaa
