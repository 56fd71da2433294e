/- script: bytes. -/
import Derived.Test.YtcghhhjklihpkaaSmI
set_option linter.unusedSimpArgs false
set_option linter.unusedVariables false
namespace Go.Proofs.Ytcghhhjklihpkaa
open Go.Bk Go.RowKit

theorem ty_bytes : SlTy Try.prog 32 5 1 1 (.int .u8 0) := ⟨by kernel_rfl, ⟨_, rfl, by kernel_rfl, by kernel_rfl, by kernel_rfl⟩, rfl, by omega⟩

def B (x : Nat) : Value := .int .u8 x
def bys (l : List Nat) : List Value := l.map B
theorem bys_len (l : List Nat) : (bys l).length = l.length := by simp [bys]
theorem bys_at {l : List Nat} {i x : Nat} (h : l[i]? = some x) : (bys l)[i]? = some (.int .u8 x) := by simp [bys, h, B]
theorem bys_append (l r : List Nat) : bys (l ++ r) = bys l ++ bys r := by simp [bys]
theorem bys_one (l : List Nat) : ∀ u ∈ bys l, u.oneCell' = true := by
  intro u hu
  obtain ⟨x, _, rfl⟩ := List.mem_map.1 hu
  rfl
abbrev RdB (w : World) (s : Value) (d : List Nat) : Prop := RdC w 1 s d.length (bys d)
abbrev OwnB (s : Value) (d : List Nat) (hp : HP) : Prop := OwnS 5 1 s d.length (bys d) hp

/-- Bytes behind bytes of one's own. -/
theorem append_bys {w0 w : World} {M : Nat → Prop} {h hp : HP} {v x : Value} {xs l : List Nat} {ty : TypeId} (ho : OwnB v xs hp) (hs : St w0 M (hp ++ h) w) (hv : RdB w x l) (hb : xs.length + l.length ≤ 70368744177664) {K : Value → World → Prop}
    (k : ∀ v' hp' w', OwnB v' (xs ++ l) hp' → St w0 M (hp' ++ h) w' → K v' w') : pE (semE Try.prog (Builtin.append_ #[32, 32] ty #[v, x]) w) K := by
  obtain ⟨hl, a, c, rfl, hc, h0, hcell⟩ := hv
  refine append_own ty_bytes ho hs (xa := a) (m := l.length) (news := bys l) rfl h0 hl hcell (bys_one l) (by simp [maxLen]; omega) (by omega) (fun v' hp' w' ho' hs' _ => ?_)
  rw [← bys_append, ← List.length_append] at ho'
  exact k v' hp' w' ho' hs'

theorem bys_cells (cs : List Nat) : ((bys cs).map (·.cells.toList)).flatten = bys cs := by
  induction cs with
  | nil => rfl
  | cons c cs ih => simp only [bys, List.map_cons, List.flatten_cons] at ih ⊢; rw [ih]; rfl

/-- Bytes that are told, behind bytes of one's own. -/
theorem app_bys {w0 w : World} {M : Nat → Prop} {h hp : HP} {v : Value} {xs : List Nat} {vs : List Value} (cs : List Nat) (hcs : vs = bys cs) {ty : TypeId} (ho : OwnB v xs hp) (hs : St w0 M (hp ++ h) w) (hb : xs.length + cs.length ≤ 70368744177664) {K : Value → World → Prop}
    (k : ∀ v' hp' w', OwnB v' (xs ++ cs) hp' → St w0 M (hp' ++ h) w' → K v' w') : pE (mkE 5 1 vs w) fun x w => pE (semE Try.prog (Builtin.append_ #[32, 32] ty #[v, x]) w) K := by
  subst hcs
  refine pE_mkc hs (bys cs) ?_ ?_ (fun b w1 hs1 ht1 _ => ?_)
  · exact bys_cells cs
  · intro v hv
    obtain ⟨x, _, rfl⟩ := List.mem_map.1 hv
    rfl
  · have hB := hs1.top
    refine append_bys (l := cs) (h := (b, ⟨bys cs, 5⟩) :: h) ho (hs1.re (fun _ => by simp only [cnt_nil, cnt_cons, cnt_append]; omega)) ⟨by simp [bys], some ⟨b, 0, none⟩, (bys cs).length, by rw [bys_len], by rw [bys_len]; exact Nat.le_refl _, by simp, fun ad h => ?_⟩ hb (fun v' hp' w' ho' hs' => k v' hp' w' ho' (hs'.re (fun _ => by simp only [cnt_nil, cnt_cons, cnt_append]; omega)))
    cases h
    exact hB.cellsAt 0

/-- bytes.Clone. -/
theorem bclone_spec {w : World} {v : Value} {l : List Nat} (hv : RdB w v l) (hb : l.length ≤ 70368744177664) {K : Value → World → Prop}
    (k : ∀ v' hp w', OwnB v' l hp → St w no hp w' → K v' w') : F44 v w K := by
  unfold F44
  obtain ⟨a, c, rfl⟩ := RdC.slice hv
  cases a with
  | none =>
    obtain ⟨_, a', c', he, hn, h0, _⟩ := hv
    cases he
    have := h0 rfl
    simp (disch := omega) only [pV_some, pE_some, pU_some, st_add, st_sub, st_mul, st_quo, st_rem, st_eql, st_neq, st_lss, st_leq, st_gtr, st_geq, st_seq, st_sneq, st_beq, st_bneq, st_not, st_neg, st_lenS, st_capS, st_lenT, st_fldA, st_conv, st_pick, st_ext0, st_ext1, st_ext2, st_ext3, st_nilS, st_nilP, st_nilF, st_nilE, st_nilN, st_none, st_some, st_true, st_false, nilC, add_lit, Nat.zero_add, Nat.add_zero, nth0, nth1, nth2, nth3, nth4, nth5, nth6, List.getElem?_cons_succ, List.getElem?_cons_zero, cond_true, cond_false, pSC_orp, pSC_andp, wrap_i64, Bool.not_true, Bool.not_false]
    have hnil : l = [] := List.eq_nil_of_length_eq_zero this
    subst hnil
    exact k _ _ _ (ownS_nil _ _) (St.nil _ _)
  | some ad =>
    simp (disch := omega) only [pV_some, pE_some, pU_some, st_add, st_sub, st_mul, st_quo, st_rem, st_eql, st_neq, st_lss, st_leq, st_gtr, st_geq, st_seq, st_sneq, st_beq, st_bneq, st_not, st_neg, st_lenS, st_capS, st_lenT, st_fldA, st_conv, st_pick, st_ext0, st_ext1, st_ext2, st_ext3, st_nilS, st_nilP, st_nilF, st_nilE, st_nilN, st_none, st_some, st_true, st_false, nilC, add_lit, Nat.zero_add, Nat.add_zero, nth0, nth1, nth2, nth3, nth4, nth5, nth6, List.getElem?_cons_succ, List.getElem?_cons_zero, cond_true, cond_false, pSC_orp, pSC_andp, wrap_i64, Bool.not_true, Bool.not_false]
    refine pE_mk (St.nil w no) (by simp) (fun b w1 hs1 ht1 _ => ?_)
    have ho : OwnB (.slice (some ⟨b, 0, none⟩) 0 0) [] [(b, ⟨[], 5⟩)] := ⟨rfl, .inr ⟨b, 0, [], rfl, Nat.le_refl _, by decide, by simp [bys], by simp [bys]⟩⟩
    refine append_bys (h := []) ho (by simpa using hs1) (hv.gr ht1) (by simpa using hb) (fun v' hp' w' ho' hs' => ?_)
    rw [List.nil_append] at ho'
    exact k v' hp' w' ho' (by simpa using hs')

/-- A number's bytes, the highest first. -/
def num (x : Nat) : Nat → List Nat
  | 0 => []
  | n + 1 => x / 256 ^ n % 256 :: num x n
theorem num_len (x n : Nat) : (num x n).length = n := by
  induction n with
  | zero => rfl
  | succ n ih => simp [num, ih]
end Go.Proofs.Ytcghhhjklihpkaa
