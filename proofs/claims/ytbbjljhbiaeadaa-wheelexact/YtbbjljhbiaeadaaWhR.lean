/- wheel: lists that were told, gone on with. -/
import Derived.Test.YtbbjljhbiaeadaaWhQ
set_option linter.unusedSimpArgs false
set_option linter.unusedVariables false
set_option maxRecDepth 100000
namespace Go.Proofs.Ytbbjljhbiaeadaa
open Go.Bk Go.RowKit

/-- A list of timers that blocks hold: it may be part of a longer one. -/
def Sup (v : Value) (xs : List (Int × Int)) (h : HP) : Prop :=
  ∃ a c, v = .slice a xs.length c ∧ xs.length ≤ c ∧ (a = none → xs.length = 0) ∧ ∀ ad, a = some ad → ∃ g sp, ad = ⟨g, 0, none⟩ ∧ (g, ⟨frows xs ++ sp, (.t 34)⟩) ∈ h
theorem Sup.reads {v : Value} {xs : List (Int × Int)} {h r : HP} (hu : Sup v xs h) {w0 w : World} {M : Nat → Prop} (hs : St w0 M (h ++ r) w) : RdF w v xs := by
  obtain ⟨a, c, rfl, hn, h0, hc⟩ := hu
  refine ⟨frows_len xs, a, c, rfl, hn, h0, fun ad had => ?_⟩
  obtain ⟨g, sp, rfl, hm⟩ := hc ad had
  have hB : Has w g ⟨frows xs ++ sp, (.t 34)⟩ := hs.has _ (List.mem_append_left _ hm)
  have := (hB.cellsAt 0).take (frows xs).length
  simpa using this
theorem Sup.sub {v : Value} {xs : List (Int × Int)} {h h' : HP} (hu : Sup v xs h) (hh : ∀ p ∈ h, p ∈ h') : Sup v xs h' := by
  obtain ⟨a, c, rfl, hn, h0, hc⟩ := hu
  refine ⟨a, c, rfl, hn, h0, fun ad had => ?_⟩
  obtain ⟨g, sp, rfl, hm⟩ := hc ad had
  exact ⟨g, sp, rfl, hh _ hm⟩
theorem sup_own {v : Value} {xs : List (Int × Int)} {h : HP} (ho : OwnF v xs h) : Sup v xs h := by
  rcases ho.2 with ⟨rfl, h0, rfl⟩ | ⟨g, cap, sp, rfl, hn, hc, hcs, rfl⟩
  · exact ⟨none, 0, by rw [h0], by omega, fun _ => h0, fun ad h => by cases h⟩
  · exact ⟨some ⟨g, 0, none⟩, cap, rfl, hn, fun h => (by cases h), fun ad h => (by cases h; exact ⟨g, sp, rfl, List.mem_cons_self ..⟩)⟩

theorem zrow (i : Nat) : List.replicate (i + 1) ((0, 0) : Int × Int) = List.replicate i (0, 0) ++ [(0, 0)] := List.replicate_succ'
theorem grown_spec {w0 w : World} {M : Nat → Prop} {v : Value} {xs : List (Int × Int)} {hp r : HP} (ho : OwnF v xs hp) (hs : St w0 M (hp ++ r) w) (hl : xs.length ≤ 65536) {n : Nat} (hn : n ≤ 1000) {K : Value → World → Prop}
    (k : ∀ v' hp' hq w', OwnF v' (xs ++ List.replicate n (0, 0)) hp' → Sup v xs (hp' ++ hq) → St w0 M (hp' ++ (hq ++ r)) w' → K v' w') : F33 v (.int .i64 n) w K := by
  unfold F33
  refine pLoop_up (I := fun i vs w' => ∃ c hc hq, vs = [c, .int .i64 (i : Nat)] ∧ OwnF c (xs ++ List.replicate i (0, 0)) hc ∧ Sup v xs (hc ++ hq) ∧ St w0 M (hc ++ (hq ++ r)) w') n 0 (Nat.zero_le _) ⟨v, hp, [], rfl, by simpa using ho, by simpa using sup_own ho, hs⟩ ?_
  rintro i vs w1 hi ⟨c, hc, hq, rfl, ho1, hu, hs1⟩ go hgo
  try simp (disch := omega) only [pV_some, pE_some, pU_some, st_add, st_sub, st_mul, st_quo, st_rem, st_eql, st_neq, st_lss, st_leq, st_gtr, st_geq, st_seq, st_sneq, st_beq, st_bneq, st_not, st_neg, st_lenS, st_capS, st_lenT, st_fldA, st_conv, st_pick, st_ext0, st_ext1, st_ext2, st_ext3, st_nilS, st_nilP, st_nilF, st_nilE, st_nilN, st_none, st_some, st_true, st_false, nilC, add_lit, Nat.zero_add, Nat.add_zero, nth0, nth1, nth2, nth3, nth4, nth5, nth6, List.getElem?_cons_succ, List.getElem?_cons_zero, cond_true, cond_false, pSC_orp, pSC_andp, wrap_i64, Bool.not_true, Bool.not_false]
  refine pIf_of (fun hlt => ?_) (fun hlt => ?_)
  · have hlt : i < n := by simpa using hlt
    refine pV_eq (show _ = some (frV (0, 0)) from rfl) ?_
    refine pE_mkc hs1 (frow (0, 0)) rfl (by simp [Value.cells]) (fun b w2 hs2 ht2 _ => ?_)
    have hB := hs2.top
    have hlen : (xs ++ List.replicate i ((0, 0) : Int × Int)).length ≤ 66536 := by simp; omega
    refine append_keep ty_fir ho1 (h := (b, ⟨frow (0, 0), (.t 34)⟩) :: (hq ++ r)) (hs2.re (fun _ => by simp only [cnt_nil, cnt_cons, cnt_append]; omega)) (xa := some ⟨b, 0, none⟩) (m := 1) (news := frow (0, 0)) rfl (by simp) (by omega) rfl (fun ad h => by cases h; exact hB.cellsAt 0) (by intro u hu; simp [frow] at hu; subst hu; rfl) (by simp only [maxLen]; omega) (by omega) (fun v3 hp3 w3 ho3 hs3 => ?_)
    have ho4 : OwnF v3 (xs ++ List.replicate (i + 1) (0, 0)) hp3 := by
      rw [zrow, ← List.append_assoc]
      have e : frows (xs ++ List.replicate i (0, 0) ++ [(0, 0)]) = frows (xs ++ List.replicate i (0, 0)) ++ frow (0, 0) := by rw [frows_append]; rfl
      unfold OwnF
      rw [e, List.length_append (bs := [(0, 0)])]
      exact ho3
    try simp (disch := omega) only [pV_some, pE_some, pU_some, st_add, st_sub, st_mul, st_quo, st_rem, st_eql, st_neq, st_lss, st_leq, st_gtr, st_geq, st_seq, st_sneq, st_beq, st_bneq, st_not, st_neg, st_lenS, st_capS, st_lenT, st_fldA, st_conv, st_pick, st_ext0, st_ext1, st_ext2, st_ext3, st_nilS, st_nilP, st_nilF, st_nilE, st_nilN, st_none, st_some, st_true, st_false, nilC, add_lit, Nat.zero_add, Nat.add_zero, nth0, nth1, nth2, nth3, nth4, nth5, nth6, List.getElem?_cons_succ, List.getElem?_cons_zero, cond_true, cond_false, pSC_orp, pSC_andp, wrap_i64, Bool.not_true, Bool.not_false]
    rcases hs3 with hs3 | ⟨hs3, g, cap, sp, rfl, rfl, rfl, hsp, rfl⟩
    · refine hgo _ _ hlt ⟨v3, hp3, hc ++ hq, by simp, ho4, hu.sub (fun p h => List.mem_append_right _ h), hs3.re (fun _ => by simp only [cnt_nil, cnt_cons, cnt_append]; omega)⟩
    · refine hgo _ _ hlt ⟨_, _, hq, by simp, ho4, ?_, hs3.re (fun _ => by simp only [cnt_nil, cnt_cons, cnt_append]; omega)⟩
      obtain ⟨a', c', hv', hn', h0', hc'⟩ := hu
      refine ⟨a', c', hv', hn', h0', fun ad had => ?_⟩
      obtain ⟨g', sp', rfl, hm⟩ := hc' ad had
      rcases List.mem_append.1 hm with hm | hm
      · simp only [List.mem_singleton, Prod.mk.injEq] at hm
        obtain ⟨rfl, _⟩ := hm
        refine ⟨g', frows (List.replicate i (0, 0)) ++ frow (0, 0) ++ sp.drop (frow (0, 0)).length, rfl, List.mem_append_left _ ?_⟩
        simp only [List.mem_singleton, frows_append, List.append_assoc]
      · exact ⟨g', sp', rfl, List.mem_append_right _ hm⟩
  · obtain rfl : i = n := by simp at hlt; omega
    exact k _ _ _ _ ho1 hu hs1

/-- Writing one of one's own timers. -/
theorem own_setF {w0 w : World} {M : Nat → Prop} {r kk : HP} {s : Value} {d : List (Int × Int)} (ho : OwnF s d kk) (hs : St w0 M (kk ++ r) w) {i : Nat} (hi : i < d.length) {x : Int} (hx : x = i) :
    ∃ ad, idxV 2 s (.int .i64 x) = some (.pointer (some ad)) ∧ ∀ (y : Int × Int) (K : World → Prop), (∀ kk' w', OwnF s (d.set i y) kk' → St w0 M (kk' ++ r) w' → K w') → pU (stE 2 (.pointer (some ad)) (frV y) w) K := by
  rcases ho.2 with ⟨_, h0, _⟩ | ⟨g, cap, sp, rfl, hn, hc, hcs, rfl⟩
  · omega
  · refine ⟨⟨g, 0 + i * 2, none⟩, idx_lit hi hx, fun y K k => ?_⟩
    have hl := frows_len d
    refine pU_st (sz := 2) (v := frV y) hs (frows (d.set i y) ++ sp) (by simp [Value.cells]) (by rw [List.length_append, hl]; omega) (by intro u hu; simp [Value.cells] at hu; rcases hu with rfl | rfl <;> rfl) ?_ (fun w' hs' _ => k [(g, ⟨frows (d.set i y) ++ sp, (.t 34)⟩)] w' ?_ hs')
    · rw [Nat.zero_add]
      exact (flat_put frow 2 (fun _ => rfl) d i y sp hi).symm
    · refine ⟨frows_len _, .inr ⟨g, cap, sp, by simp, by simpa using hn, hc, ?_, rfl⟩⟩
      refine Nat.le_trans hcs (Nat.le_of_eq ?_)
      simp [frows_len]

/-! lists of lists -/
theorem ty_frs : SlTy Try.prog 52 22 1 24 (.slice none 0 0) := ⟨by kernel_rfl, ⟨_, rfl, by kernel_rfl, by kernel_rfl, by kernel_rfl⟩, rfl, by omega⟩
abbrev OwnLL (v : Value) (l : List Value) (h : HP) : Prop := OwnS 22 1 v l.length l h
theorem app_sl {w0 w : World} {M : Nat → Prop} {h hp : HP} {v x : Value} {xs : List Value} {ty : TypeId} (ho : OwnLL v xs hp) (hs : St w0 M (hp ++ h) w) (hx : ∃ a n c, x = .slice a n c) (hb : xs.length ≤ 4000) {K : Value → World → Prop}
    (k : ∀ v' hp' w', OwnLL v' (xs ++ [x]) hp' → St w0 M (hp' ++ h) w' → K v' w') : pE (mkE 22 1 [x] w) fun x w => pE (semE Try.prog (Builtin.append_ #[52, 52] ty #[v, x]) w) K := by
  obtain ⟨a, n, c, rfl⟩ := hx
  refine pE_mkc hs [.slice a n c] rfl (by simp [Value.cells]) (fun b w1 hs1 ht1 _ => ?_)
  have hB := hs1.top
  refine append_own ty_frs ho (h := (b, ⟨[.slice a n c], (.t 22)⟩) :: h) (hs1.re (fun _ => by simp only [cnt_nil, cnt_cons, cnt_append]; omega)) (xa := some ⟨b, 0, none⟩) (m := 1) (news := [.slice a n c]) rfl (by simp) rfl (fun ad h => by cases h; exact hB.cellsAt 0) (by intro u hu; simp at hu; subst hu; rfl) (by simp only [maxLen]; omega) (by omega) (fun v3 hp3 w3 ho3 hs3 _ => ?_)
  refine k v3 hp3 w3 ?_ (hs3.re (fun _ => by simp only [cnt_nil, cnt_cons, cnt_append]; omega))
  unfold OwnLL
  rw [List.length_append]
  exact ho3
end Go.Proofs.Ytbbjljhbiaeadaa
