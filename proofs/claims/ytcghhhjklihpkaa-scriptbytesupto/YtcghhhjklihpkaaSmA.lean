/- script: what 'own', 'Clone', 'words', 'with' do to inputs. -/
import Derived.Test.YtcghhhjklihpkaaMem5
import Derived.Test.YtcghhhjklihpkaaF
set_option linter.unusedSimpArgs false
set_option linter.unusedVariables false
namespace Go.Proofs.Ytcghhhjklihpkaa
open Go.Bk Go.RowKit

theorem ty_ints : SlTy Try.prog 40 2 1 8 (.int .i64 0) := ⟨by kernel_rfl, ⟨_, rfl, by kernel_rfl, by kernel_rfl, by kernel_rfl⟩, rfl, by omega⟩
theorem ty_ins : SlTy Try.prog 22 42 4 48 (.agg #[.int .i64 0, .int .i64 0, .int .i64 0, .slice none 0 0]) := ⟨by kernel_rfl, ⟨_, rfl, by kernel_rfl, by kernel_rfl, by kernel_rfl⟩, rfl, by omega⟩

def I (x : Int) : Value := .int .i64 x
def ints (l : List Int) : List Value := l.map I
theorem ints_len (l : List Int) : (ints l).length = l.length := by simp [ints]
theorem ints_at {l : List Int} {i : Nat} {x : Int} (h : l[i]? = some x) : (ints l)[i]? = some (.int .i64 x) := by simp [ints, h, I]
theorem ints_append (l r : List Int) : ints (l ++ r) = ints l ++ ints r := by simp [ints]
theorem ints_one (l : List Int) : ∀ u ∈ ints l, u.oneCell' = true := by
  intro u hu
  obtain ⟨x, _, rfl⟩ := List.mem_map.1 hu
  rfl

/-- An input. -/
structure In where
  t : Int
  k : Int
  g : Int
  d : List Int
  deriving DecidableEq
theorem In.eq {x y : In} (h1 : x.t = y.t) (h2 : x.k = y.k) (h3 : x.g = y.g) (h4 : x.d = y.d) : x = y := by
  cases x; cases y; simp only at h1 h2 h3 h4; subst h1 h2 h3 h4; rfl

/-- Its cells, s its words. -/
def row (p : In × Value) : List Value := [.int .i64 p.1.t, .int .i64 p.1.k, .int .i64 p.1.g, p.2]
def rows (ps : List (In × Value)) : List Value := (ps.map row).flatten
theorem rows_len (ps : List (In × Value)) : (rows ps).length = ps.length * 4 := flat_len row 4 (fun _ => rfl) ps
theorem rows_snoc (ps : List (In × Value)) (p : In × Value) : rows (ps ++ [p]) = rows ps ++ row p := by simp [rows]
theorem rows_append (ps qs : List (In × Value)) : rows (ps ++ qs) = rows ps ++ rows qs := by simp [rows]

abbrev RdI (w : World) (s : Value) (d : List Int) : Prop := RdC w 1 s d.length (ints d)
/-- What is bounded of a list of inputs. -/
def Fit (x : In) : Prop := x.d.length ≤ 1073741824
/-- v reads as the inputs of ps. -/
structure InsR (w : World) (v : Value) (ps : List (In × Value)) : Prop where
  c : RdC w 4 v ps.length (rows ps)
  d : ∀ p ∈ ps, RdI w p.2 p.1.d
theorem InsR.gr {w w' : World} {v : Value} {ps : List (In × Value)} (h : InsR w v ps) (ht : Tr w no w') : InsR w' v ps := ⟨h.c.gr ht, fun p hp => (h.d p hp).gr ht⟩
theorem InsR.at {w : World} {v : Value} {ps : List (In × Value)} (h : InsR w v ps) {i : Nat} {p : In × Value} (hp : ps[i]? = some p) {x : Int} (hx : x = i) :
    ∃ ad, idxV 4 v (.int .i64 x) = some (.pointer (some ad)) ∧ CellsAt w ad (row p) := by
  obtain ⟨ad, h1, h2⟩ := h.c.idx (List.getElem?_eq_some_iff.1 hp).1 hx
  exact ⟨ad, h1, by rw [rows, flat_slot row 4 (fun _ => rfl) ps i p hp] at h2; exact h2⟩
theorem row_ld {w : World} {ad : Addr} {p : In × Value} (h : CellsAt w ad (row p)) : ldV true 4 w (.pointer (some ad)) = some (.agg #[.int .i64 p.1.t, .int .i64 p.1.k, .int .i64 p.1.g, p.2]) := ldN h rfl

/-- slices.Clone of numbers. -/
theorem clone_spec {w : World} {v : Value} {l : List Int} (hv : RdI w v l) (hb : l.length ≤ 2147483647) {K : Value → World → Prop}
    (k : ∀ v' hp w', OwnS 2 1 v' l.length (ints l) hp → St w no hp w' → K v' w') : F34 v w K := by
  unfold F34
  obtain ⟨hl, a, c, rfl, hc, h0, hcell⟩ := hv
  cases a with
  | none =>
    have := h0 rfl
    simp (disch := omega) only [pV_some, pE_some, pU_some, st_add, st_sub, st_mul, st_quo, st_rem, st_eql, st_neq, st_lss, st_leq, st_gtr, st_geq, st_seq, st_sneq, st_beq, st_bneq, st_not, st_neg, st_lenS, st_capS, st_lenT, st_fldA, st_conv, st_pick, st_ext0, st_ext1, st_ext2, st_ext3, st_nilS, st_nilP, st_nilF, st_nilE, st_nilN, st_none, st_some, st_true, st_false, nilC, add_lit, Nat.zero_add, Nat.add_zero, nth0, nth1, nth2, nth3, nth4, nth5, nth6, List.getElem?_cons_succ, List.getElem?_cons_zero, cond_true, cond_false, pSC_orp, pSC_andp, wrap_i64, Bool.not_true, Bool.not_false]
    have hnil : l = [] := List.eq_nil_of_length_eq_zero this
    subst hnil
    exact k _ _ _ (ownS_nil _ _) (St.nil _ _)
  | some ad =>
    simp (disch := omega) only [pV_some, pE_some, pU_some, st_add, st_sub, st_mul, st_quo, st_rem, st_eql, st_neq, st_lss, st_leq, st_gtr, st_geq, st_seq, st_sneq, st_beq, st_bneq, st_not, st_neg, st_lenS, st_capS, st_lenT, st_fldA, st_conv, st_pick, st_ext0, st_ext1, st_ext2, st_ext3, st_nilS, st_nilP, st_nilF, st_nilE, st_nilN, st_none, st_some, st_true, st_false, nilC, add_lit, Nat.zero_add, Nat.add_zero, nth0, nth1, nth2, nth3, nth4, nth5, nth6, List.getElem?_cons_succ, List.getElem?_cons_zero, cond_true, cond_false, pSC_orp, pSC_andp, wrap_i64, Bool.not_true, Bool.not_false]
    refine pE_mk (St.nil w no) (by simp) (fun b w1 hs1 ht1 _ => ?_)
    have ho : OwnS 2 1 (.slice (some ⟨b, 0, none⟩) 0 0) 0 [] [(b, ⟨[], 2⟩)] := ⟨rfl, .inr ⟨b, 0, [], rfl, Nat.le_refl _, by decide, by simp, by simp⟩⟩
    refine append_own (h := []) ty_ints ho (by simpa using hs1) (xa := some ad) (m := l.length) (news := ints l) rfl (by simp) (by simpa using hl) (fun ad' h => by cases h; exact (hcell ad rfl).tr ht1 (fun h => h)) (ints_one l) (by simp [maxLen]; omega) (by omega) (fun v' hp' w' ho' hs' _ => ?_)
    rw [Nat.zero_add] at ho'
    exact k v' hp' w' ho' (by simpa using hs')

/-- Numbers behind numbers of one's own. -/
theorem append_ints {w0 w : World} {M : Nat → Prop} {h hp : HP} {v x : Value} {xs l : List Int} {ty : TypeId} (ho : OwnS 2 1 v xs.length (ints xs) hp) (hs : St w0 M (hp ++ h) w) (hv : RdI w x l) (hb : xs.length + l.length ≤ 2147483647) {K : Value → World → Prop}
    (k : ∀ v' hp' w', OwnS 2 1 v' (xs ++ l).length (ints (xs ++ l)) hp' → St w0 M (hp' ++ h) w' → K v' w') : pE (semE Try.prog (Builtin.append_ #[40, 40] ty #[v, x]) w) K := by
  obtain ⟨hl, a, c, rfl, hc, h0, hcell⟩ := hv
  refine append_own ty_ints ho hs (xa := a) (m := l.length) (news := ints l) rfl h0 hl hcell (ints_one l) (by simp [maxLen]; omega) (by omega) (fun v' hp' w' ho' hs' _ => ?_)
  rw [← ints_append, ← List.length_append] at ho'
  exact k v' hp' w' ho' hs'

/-- bulkheadref21.words. -/
theorem words_spec {w : World} {v : Value} {l : List Int} (hv : RdI w v l) (hb : l.length ≤ 2147483647) {K : Value → World → Prop}
    (k : ∀ v' hp w', OwnS 2 1 v' l.length (ints l) hp → St w no hp w' → K v' w') : F35 v w K := by
  unfold F35
  exact append_ints (xs := []) (h := []) (ownS_nil _ _) (St.nil w no) hv (by simpa using hb) (fun v' hp' w' ho hs => k v' hp' w' ho (by simpa using hs))
end Go.Proofs.Ytcghhhjklihpkaa
