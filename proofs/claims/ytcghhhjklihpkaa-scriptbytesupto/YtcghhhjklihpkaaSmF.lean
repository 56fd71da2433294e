/- script: 'handed' makes a copy with marks. -/
import Derived.Test.YtcghhhjklihpkaaSmE
set_option linter.unusedSimpArgs false
set_option linter.unusedVariables false
namespace Go.Proofs.Ytcghhhjklihpkaa
open Go.Bk Go.RowKit

def wide (x : In) : In := ⟨x.t, x.k, x.g, x.d ++ List.replicate 8 777⟩
def mark : In × Value := (⟨77, 0, 0, []⟩, .slice none 0 0)
def marks : List (In × Value) := List.replicate 8 mark
def wideP (z : In × Value) : In × Value := (wide z.1, z.2)
def cutV (s : Value) (n : Nat) : Value := match s with | .slice a _ c => .slice a n c | s => s
def cutP (z : In × Value) : In × Value := (z.1, cutV z.2 z.1.d.length)

/-- A list of one's own with more behind it in sight. -/
def OwnM (v : Value) (qs ms : List (In × Value)) (o : HP) : Prop :=
  ∃ g cap sp, v = .slice (some ⟨g, 0, none⟩) qs.length cap ∧ qs.length + ms.length ≤ cap ∧ cap ≤ maxLen ∧ cap * 4 ≤ (rows (qs ++ ms) ++ sp).length ∧ o = [(g, ⟨rows (qs ++ ms) ++ sp, 42⟩)]
theorem OwnM.own {v : Value} {qs ms : List (In × Value)} {o : HP} (h : OwnM v qs ms o) : OwnS 42 4 v qs.length (rows qs) o := by
  obtain ⟨g, cap, sp, rfl, h1, h2, h3, rfl⟩ := h
  refine ⟨rows_len qs, .inr ⟨g, cap, rows ms ++ sp, rfl, by omega, h2, by rw [← List.append_assoc, ← rows_append]; exact h3, by rw [← List.append_assoc, ← rows_append]⟩⟩

theorem cut_own {s : Value} {d t : List Int} {k : HP} (h : OwnI s (d ++ t) k) : slV 1 s none (some (.int .i64 d.length)) none = some (cutV s d.length) ∧ OwnI (cutV s d.length) d k := by
  have h' : OwnS 2 1 s (d ++ t).length (ints d ++ ints t) k := by rw [← ints_append]; exact h
  obtain ⟨v', h1, h2⟩ := h'.cut (m := d.length) (by simp) (by simp [ints]) rfl
  have : v' = cutV s d.length := by
    obtain ⟨a, c, rfl, hc⟩ := OwnS.slice h
    simp at hc
    simp only [slV, bnd, hiD, Option.bind_some, Option.isNone_some, Option.isSome_none, Bool.and_false, Int.toNat_natCast] at h1
    rw [if_pos ⟨by omega, by omega⟩] at h1
    simp at h1
    rw [← h1]
    simp only [cutV]
    cases a <;> simp [add_zero]
  subst this
  exact ⟨h1, h2⟩

theorem step_set {α : Type} (f : α → α) (l : List α) (i : Nat) (h : i < l.length) (r : List α) : ((l.take i).map f ++ l.drop i ++ r).set i (f l[i]) = (l.take (i + 1)).map f ++ l.drop (i + 1) ++ r := by
  have hl : ((l.take i).map f).length = i := by simp; omega
  rw [List.append_assoc, List.set_append_right _ _ (by omega), hl, Nat.sub_self, List.drop_eq_getElem_cons h, List.take_add_one, List.getElem?_eq_getElem h]
  simp only [List.cons_append, List.set_cons_zero, List.map_append, Option.toList_some, List.map_cons, List.map_nil, List.append_assoc, List.nil_append]
theorem step_get {α : Type} (f : α → α) (l : List α) (i : Nat) (h : i < l.length) (r : List α) : ((l.take i).map f ++ l.drop i ++ r)[i]? = some l[i] := by
  have hl : ((l.take i).map f).length = i := by simp; omega
  rw [List.append_assoc, List.getElem?_append_right (by omega), hl, Nat.sub_self, List.drop_eq_getElem_cons h]
  rfl
theorem rows_oneCell {ps : List (In × Value)} (h : ∀ p ∈ ps, oneC p.2 = true) : ∀ u ∈ rows ps, u.oneCell' = true := by
  intro u hu
  simp only [rows, List.mem_flatten, List.mem_map] at hu
  obtain ⟨l, ⟨p, hp, rfl⟩, hu⟩ := hu
  exact oneCell_row (h p hp) u hu

/-- One number behind numbers of one's own. -/
theorem app_int {w0 w : World} {M : Nat → Prop} {h hp : HP} {v : Value} {xs : List Int} {c : Int} {ty : TypeId} (ho : OwnI v xs hp) (hs : St w0 M (hp ++ h) w) (hb : xs.length < 2147483647) {K : Value → World → Prop}
    (k : ∀ v' hp' w', OwnI v' (xs ++ [c]) hp' → St w0 M (hp' ++ h) w' → K v' w') : pE (mkE 2 1 [.int .i64 c] w) fun x w => pE (semE Try.prog (Builtin.append_ #[40, 40] ty #[v, x]) w) K := by
  refine pE_mkc hs [.int .i64 c] rfl (by simp [Value.cells]) (fun b w1 hs1 ht1 _ => ?_)
  have hB := hs1.top
  refine append_ints (l := [c]) (h := (b, ⟨[.int .i64 c], 2⟩) :: h) ho (hs1.re (fun _ => by simp only [cnt_nil, cnt_cons, cnt_append]; omega)) ⟨rfl, _, _, rfl, Nat.le_refl _, by simp, fun ad h => ?_⟩ (by simp; omega) (fun v' hp' w' ho' hs' => k v' hp' w' ho' (hs'.re (fun _ => by simp only [cnt_nil, cnt_cons, cnt_append]; omega)))
  cases h
  exact hB.cellsAt 0

theorem rep_snoc {α : Type} (n : Nat) (a : α) : List.replicate (n + 1) a = List.replicate n a ++ [a] := List.replicate_succ'

theorem handed_spec {w0 : World} {v : Value} {ps : List (In × Value)} (hp : InsR w0 v ps) (fp : Fits ps) {K : Value → World → Prop}
    (k : ∀ (a whole : Value) (zs : List (In × Value)) (oa ow inn : HP) (w' : World), zs.map (·.1) = ps.map (·.1) → OwnM a (zs.map cutP) marks oa → OwnS 42 4 whole (zs.map wideP ++ marks).length (rows (zs.map wideP ++ marks)) ow → Inn (zs.map wideP ++ marks) inn → Inn (zs.map cutP) inn →
      St w0 no (oa ++ (ow ++ inn)) w' → K (.tuple #[a, whole]) w') : F5 v w0 K := by
  unfold F5
  have fp1 := fp.1
  refine pLoop_up (I := fun i vs w => ∃ (vo : Value) (zs : List (In × Value)) (o inn : HP), vs = [vo, .int .i64 (i : Nat)] ∧ zs.map (·.1) = (ps.take i).map (·.1) ∧ OwnS 42 4 vo (zs.map wideP).length (rows (zs.map wideP)) o ∧ Inn (zs.map wideP) inn ∧ Inn (zs.map cutP) inn ∧ St w0 no (o ++ inn) w) ps.length 0 (Nat.zero_le _) ⟨_, [], [], [], rfl, rfl, ownS_nil _ _, .nil, .nil, St.nil _ _⟩ ?_
  rintro i vs w hi ⟨vo, zs, o, inn, rfl, hz, ho, hw, hc, hs⟩ go hgo
  have hzl : zs.length = min i ps.length := by have := congrArg List.length hz; simpa using this
  simp (disch := omega) only [pV_some, pE_some, pU_some, st_add, st_sub, st_mul, st_quo, st_rem, st_eql, st_neq, st_lss, st_leq, st_gtr, st_geq, st_seq, st_sneq, st_beq, st_bneq, st_not, st_neg, st_lenS, st_capS, st_lenT, st_fldA, st_conv, st_pick, st_ext0, st_ext1, st_ext2, st_ext3, st_nilS, st_nilP, st_nilF, st_nilE, st_nilN, st_none, st_some, st_true, st_false, nilC, add_lit, Nat.zero_add, Nat.add_zero, nth0, nth1, nth2, nth3, nth4, nth5, nth6, List.getElem?_cons_succ, List.getElem?_cons_zero, cond_true, cond_false, pSC_orp, pSC_andp, wrap_i64, Bool.not_true, Bool.not_false, hp.c.len]
  refine pIf_of (fun hlt => ?_) (fun hlt => ?_)
  · have hlt : i < ps.length := by simpa using hlt
    have hp1 := List.getElem?_eq_getElem hlt
    have hmem := List.getElem_mem hlt
    have fd := fp.2 _ hmem
    obtain ⟨a1, i1, c1⟩ := (hp.gr hs.tr).at hp1 (x := i) rfl
    simp (disch := omega) only [pV_some, pE_some, pU_some, st_add, st_sub, st_mul, st_quo, st_rem, st_eql, st_neq, st_lss, st_leq, st_gtr, st_geq, st_seq, st_sneq, st_beq, st_bneq, st_not, st_neg, st_lenS, st_capS, st_lenT, st_fldA, st_conv, st_pick, st_ext0, st_ext1, st_ext2, st_ext3, st_nilS, st_nilP, st_nilF, st_nilE, st_nilN, st_none, st_some, st_true, st_false, nilC, add_lit, Nat.zero_add, Nat.add_zero, nth0, nth1, nth2, nth3, nth4, nth5, nth6, List.getElem?_cons_succ, List.getElem?_cons_zero, cond_true, cond_false, pSC_orp, pSC_andp, wrap_i64, Bool.not_true, Bool.not_false, i1, row_ld c1]
    refine pE_boxc hs [.int .i64 0, .int .i64 0, .int .i64 0, .slice none 0 0] rfl (fun b1 w1 hs1 ht1 _ => ?_)
    have hd := (hp.d _ hmem).gr hs1.tr
    refine pU_st hs1 [.int .i64 ps[i].1.t, .int .i64 ps[i].1.k, .int .i64 ps[i].1.g, ps[i].2] rfl (by simp [Value.cells]) (row_one hd.one) rfl (fun w2 hs2 _ => ?_)
    have hB := hs2.top
    simp (disch := omega) only [pV_some, pE_some, pU_some, st_add, st_sub, st_mul, st_quo, st_rem, st_eql, st_neq, st_lss, st_leq, st_gtr, st_geq, st_seq, st_sneq, st_beq, st_bneq, st_not, st_neg, st_lenS, st_capS, st_lenT, st_fldA, st_conv, st_pick, st_ext0, st_ext1, st_ext2, st_ext3, st_nilS, st_nilP, st_nilF, st_nilE, st_nilN, st_none, st_some, st_true, st_false, nilC, add_lit, Nat.zero_add, Nat.add_zero, nth0, nth1, nth2, nth3, nth4, nth5, nth6, List.getElem?_cons_succ, List.getElem?_cons_zero, cond_true, cond_false, pSC_orp, pSC_andp, wrap_i64, Bool.not_true, Bool.not_false, hB.ld]
    refine append_ints (xs := []) (hp := []) (ownS_nil _ _) hs2 ((hp.d _ hmem).gr hs2.tr) (by simp; omega) (fun v1 k1 w3 ho3 hs3 => ?_)
    rw [List.nil_append] at ho3
    refine pLoop_up (I := fun j vs w => ∃ (v1 : Value) (k1 : HP), vs = [v1, .int .i64 (j : Nat)] ∧ OwnI v1 (ps[i].1.d ++ List.replicate j 777) k1 ∧ St w0 no (k1 ++ ((b1, ⟨[.int .i64 ps[i].1.t, .int .i64 ps[i].1.k, .int .i64 ps[i].1.g, ps[i].2], 42⟩) :: (o ++ inn))) w) 8 0 (by omega) ⟨v1, k1, rfl, by simpa using ho3, hs3⟩ ?_
    rintro j vs w4 hj ⟨v4, k4, rfl, ho4, hs4⟩ go2 hgo2
    simp (disch := omega) only [pV_some, pE_some, pU_some, st_add, st_sub, st_mul, st_quo, st_rem, st_eql, st_neq, st_lss, st_leq, st_gtr, st_geq, st_seq, st_sneq, st_beq, st_bneq, st_not, st_neg, st_lenS, st_capS, st_lenT, st_fldA, st_conv, st_pick, st_ext0, st_ext1, st_ext2, st_ext3, st_nilS, st_nilP, st_nilF, st_nilE, st_nilN, st_none, st_some, st_true, st_false, nilC, add_lit, Nat.zero_add, Nat.add_zero, nth0, nth1, nth2, nth3, nth4, nth5, nth6, List.getElem?_cons_succ, List.getElem?_cons_zero, cond_true, cond_false, pSC_orp, pSC_andp, wrap_i64, Bool.not_true, Bool.not_false]
    refine pIf_of (fun hj8 => ?_) (fun hj8 => ?_)
    · have hj8 : j < 8 := by simp at hj8; omega
      refine app_int ho4 hs4 (by simp; omega) (fun v5 k5 w5 ho5 hs5 => ?_)
      exact hgo2 _ _ hj8 ⟨v5, k5, by simp, by rw [rep_snoc, ← List.append_assoc]; exact ho5, hs5⟩
    · obtain rfl : j = 8 := by simp at hj8; omega
      have hs5 : St w0 no ((b1, ⟨[.int .i64 ps[i].1.t, .int .i64 ps[i].1.k, .int .i64 ps[i].1.g, ps[i].2], 42⟩) :: (k4 ++ (o ++ inn))) w4 := hs4.re (fun _ => by simp only [cnt_nil, cnt_cons, cnt_append]; omega)
      refine pU_st1 hs5 ho4.one [.int .i64 ps[i].1.t, .int .i64 ps[i].1.k, .int .i64 ps[i].1.g, v4] (by simp) rfl (fun w6 hs6 _ => ?_)
      simp (disch := omega) only [pV_some, pE_some, pU_some, st_add, st_sub, st_mul, st_quo, st_rem, st_eql, st_neq, st_lss, st_leq, st_gtr, st_geq, st_seq, st_sneq, st_beq, st_bneq, st_not, st_neg, st_lenS, st_capS, st_lenT, st_fldA, st_conv, st_pick, st_ext0, st_ext1, st_ext2, st_ext3, st_nilS, st_nilP, st_nilF, st_nilE, st_nilN, st_none, st_some, st_true, st_false, nilC, add_lit, Nat.zero_add, Nat.add_zero, nth0, nth1, nth2, nth3, nth4, nth5, nth6, List.getElem?_cons_succ, List.getElem?_cons_zero, cond_true, cond_false, pSC_orp, pSC_andp, wrap_i64, Bool.not_true, Bool.not_false, hs6.top.ldw (sz := 4) rfl]
      refine more_spec (p := wideP (ps[i].1, v4)) (h := k4 ++ inn) ho (hs6.re (fun _ => by simp only [cnt_nil, cnt_cons, cnt_append]; omega)) ho4.one (by simp; omega) (fun v7 o7 w7 ho7 hs7 => ?_)
      refine hgo _ _ hlt ⟨v7, zs ++ [(ps[i].1, v4)], o7, k4 ++ inn, by simp, ?_, by simpa using ho7, ?_, ?_, hs7⟩
      · rw [List.take_add_one, hp1, List.map_append, List.map_append, hz]; rfl
      · rw [List.map_append]; exact .snoc (p := wideP (ps[i].1, v4)) hw ho4
      · rw [List.map_append]; exact .snoc (p := cutP (ps[i].1, v4)) hc (cut_own ho4).2
  · obtain rfl : i = ps.length := by simp at hlt; omega
    rw [List.take_length] at hz
    refine pLoop_up (I := fun j vs w => ∃ (vo : Value) (o : HP), vs = [vo, .int .i64 (j : Nat)] ∧ OwnS 42 4 vo (zs.map wideP ++ List.replicate j mark).length (rows (zs.map wideP ++ List.replicate j mark)) o ∧ Inn (zs.map wideP ++ List.replicate j mark) inn ∧ St w0 no (o ++ inn) w) 8 0 (by omega) ⟨vo, o, rfl, by simpa using ho, by simpa using hw, hs⟩ ?_
    rintro j vs w4 hj ⟨v4, o4, rfl, ho4, hi4, hs4⟩ go2 hgo2
    simp (disch := omega) only [pV_some, pE_some, pU_some, st_add, st_sub, st_mul, st_quo, st_rem, st_eql, st_neq, st_lss, st_leq, st_gtr, st_geq, st_seq, st_sneq, st_beq, st_bneq, st_not, st_neg, st_lenS, st_capS, st_lenT, st_fldA, st_conv, st_pick, st_ext0, st_ext1, st_ext2, st_ext3, st_nilS, st_nilP, st_nilF, st_nilE, st_nilN, st_none, st_some, st_true, st_false, nilC, add_lit, Nat.zero_add, Nat.add_zero, nth0, nth1, nth2, nth3, nth4, nth5, nth6, List.getElem?_cons_succ, List.getElem?_cons_zero, cond_true, cond_false, pSC_orp, pSC_andp, wrap_i64, Bool.not_true, Bool.not_false]
    refine pIf_of (fun hj8 => ?_) (fun hj8 => ?_)
    · have hj8 : j < 8 := by simp at hj8; omega
      refine pV_eq (show _ = some (inV mark) from rfl) ?_
      refine more_spec (p := mark) ho4 hs4 rfl (by simp; omega) (fun v5 o5 w5 ho5 hs5 => ?_)
      refine hgo2 _ _ hj8 ⟨v5, o5, by simp, by rw [rep_snoc, ← List.append_assoc]; exact ho5, ?_, hs5⟩
      rw [rep_snoc, ← List.append_assoc]; exact .snoc (k := []) hi4 (ownS_nil _ _)
    · obtain rfl : j = 8 := by simp at hj8; omega
      refine pE_mkc hs4 [] rfl (by simp) (fun b5 w5 hs5 ht5 _ => ?_)
      have hr := ho4.reads (h := inn) (w := w5) (hs4.gr ht5)
      obtain ⟨hrl, a5, c5, hv4, hn5, h05, hc5⟩ := hr
      have ho5 : OwnS 42 4 (.slice (some ⟨b5, 0, none⟩) 0 0) 0 [] [(b5, ⟨[], 42⟩)] := ⟨rfl, .inr ⟨b5, 0, [], rfl, Nat.le_refl _, by decide, by simp, by simp⟩⟩
      refine append_own (h := o4 ++ inn) ty_ins ho5 hs5 hv4 h05 hrl hc5 (rows_oneCell (fun p hp => hi4.one p hp)) (by simp [maxLen]; omega) (by simp; omega) (fun v6 o6 w6 ho6 hs6 _ => ?_)
      rw [List.nil_append, Nat.zero_add] at ho6
      rcases ho6.2 with ⟨_, h0, _⟩ | ⟨g, cap, sp, rfl, hnc, hcm, hcs, rfl⟩
      · simp at h0
      have hL0 : rows (zs.map wideP ++ marks) = rows (zs ++ marks) := by rw [rows_append, rows_append]; congr 1; simp only [rows, List.map_map]; rfl
      have hlm : marks.length = 8 := by simp [marks]
      rw [show List.replicate 8 mark = marks from rfl] at *
      refine pLoop_up (I := fun i vs w => vs = [.int .i64 (i : Nat)] ∧ St w0 no ((g, ⟨rows ((zs.take i).map cutP ++ zs.drop i ++ marks) ++ sp, 42⟩) :: (o4 ++ inn)) w) ps.length 0 (by omega) ⟨rfl, by rw [hL0] at hs6; simpa using hs6⟩ ?_
      rintro i vs w7 hi7 ⟨rfl, hs7⟩ go3 hgo3
      simp (disch := omega) only [pV_some, pE_some, pU_some, st_add, st_sub, st_mul, st_quo, st_rem, st_eql, st_neq, st_lss, st_leq, st_gtr, st_geq, st_seq, st_sneq, st_beq, st_bneq, st_not, st_neg, st_lenS, st_capS, st_lenT, st_fldA, st_conv, st_pick, st_ext0, st_ext1, st_ext2, st_ext3, st_nilS, st_nilP, st_nilF, st_nilE, st_nilN, st_none, st_some, st_true, st_false, nilC, add_lit, Nat.zero_add, Nat.add_zero, nth0, nth1, nth2, nth3, nth4, nth5, nth6, List.getElem?_cons_succ, List.getElem?_cons_zero, cond_true, cond_false, pSC_orp, pSC_andp, wrap_i64, Bool.not_true, Bool.not_false]
      refine pIf_of (fun hi8 => ?_) (fun hi8 => ?_)
      · have hi8 : i < ps.length := by simpa using hi8
        have hiz : i < zs.length := by omega
        have hz1 := List.getElem?_eq_getElem hiz
        have hp1 := List.getElem?_eq_getElem hi8
        have hmem := List.getElem_mem hi8
        have hzp : zs[i].1 = ps[i].1 := by
          have h0 : (zs.map (·.1))[i]? = (ps.map (·.1))[i]? := by rw [hz]
          rw [List.getElem?_map, List.getElem?_map, hz1, hp1] at h0
          simpa using h0
        refine pDraw_st hs7 (fun w8 hs8 ht8 => ?_)
        have hr := ho4.reads (h := inn) (w := w8) (hs8.re (fun _ => by simp only [cnt_nil, cnt_cons, cnt_append]; omega))
        obtain ⟨a1, i1, c1⟩ := hr.idx (i := i) (by simp; omega) (x := i) rfl
        rw [rows, flat_slot row 4 (fun _ => rfl) _ i (wideP zs[i]) (by rw [List.getElem?_append_left (by simpa using hiz), List.getElem?_map, hz1]; rfl)] at c1
        obtain ⟨a2, i2, c2⟩ := (hp.gr hs8.tr).at hp1 (x := i) rfl
        obtain ⟨kz, hkz⟩ := hw.mem (wideP zs[i]) (List.mem_map.2 ⟨zs[i], List.getElem_mem hiz, rfl⟩)
        have hcut := (cut_own (s := zs[i].2) (d := zs[i].1.d) hkz).1
        rw [hzp] at hcut
        have hidx := idx_lit (sz := 4) (n := (zs.map wideP ++ marks).length) (c := cap) (g := g) (o := 0) (i := i) (by simp; omega) (x := i) rfl
        simp (disch := omega) only [pV_some, pE_some, pU_some, st_add, st_sub, st_mul, st_quo, st_rem, st_eql, st_neq, st_lss, st_leq, st_gtr, st_geq, st_seq, st_sneq, st_beq, st_bneq, st_not, st_neg, st_lenS, st_capS, st_lenT, st_fldA, st_conv, st_pick, st_ext0, st_ext1, st_ext2, st_ext3, st_nilS, st_nilP, st_nilF, st_nilE, st_nilN, st_none, st_some, st_true, st_false, nilC, add_lit, Nat.zero_add, Nat.add_zero, nth0, nth1, nth2, nth3, nth4, nth5, nth6, List.getElem?_cons_succ, List.getElem?_cons_zero, cond_true, cond_false, pSC_orp, pSC_andp, wrap_i64, Bool.not_true, Bool.not_false, i1, i2, c1.fld (j := 3) rfl, c2.fld (j := 3) rfl, (hp.d _ hmem).len, hcut, hidx, wideP]
        refine pU_set hs8 (by rw [← hzp]; exact (cut_own (s := zs[i].2) (d := zs[i].1.d) hkz).2.one) (rows ((zs.take (i + 1)).map cutP ++ zs.drop (i + 1) ++ marks) ++ sp) ?_ ?_ (fun w9 hs9 _ => ?_)
        · rw [List.length_append, rows_len]; simp; omega
        · rw [← step_set cutP zs i hiz marks]
          rw [rows, rows, flat_set1 row 4 (fun _ => rfl) _ i zs[i] (cutP zs[i]) sp 3 _ (step_get cutP zs i hiz marks) (by omega)]
          simp [row, cutP, hzp]
        · exact hgo3 _ _ hi8 ⟨by simp, hs9⟩
      · obtain rfl : i = ps.length := by simp at hi8; omega
        have hzl' : zs.length = ps.length := by simpa using congrArg List.length hz
        rw [List.take_of_length_le (by omega), List.drop_of_length_le (by omega), List.append_nil] at hs7
        have hsl : slV 4 (.slice (some ⟨g, 0, none⟩) (zs.map wideP ++ marks).length cap) none (some (.int .i64 ps.length)) none = some (.slice (some ⟨g, 0, none⟩) (zs.map cutP).length cap) := by
          simp at hnc
          simp [slV, bnd, show ps.length ≤ cap by omega, add_zero, hzl']
        simp (disch := omega) only [pV_some, pE_some, pU_some, st_add, st_sub, st_mul, st_quo, st_rem, st_eql, st_neq, st_lss, st_leq, st_gtr, st_geq, st_seq, st_sneq, st_beq, st_bneq, st_not, st_neg, st_lenS, st_capS, st_lenT, st_fldA, st_conv, st_pick, st_ext0, st_ext1, st_ext2, st_ext3, st_nilS, st_nilP, st_nilF, st_nilE, st_nilN, st_none, st_some, st_true, st_false, nilC, add_lit, Nat.zero_add, Nat.add_zero, nth0, nth1, nth2, nth3, nth4, nth5, nth6, List.getElem?_cons_succ, List.getElem?_cons_zero, cond_true, cond_false, pSC_orp, pSC_andp, wrap_i64, Bool.not_true, Bool.not_false, hsl]
        refine k _ v4 zs _ o4 inn w7 hz ⟨g, cap, sp, rfl, by simp at hnc ⊢; omega, hcm, ?_, rfl⟩ ho4 hi4 hc hs7
        rw [List.length_append, rows_len] at hcs ⊢
        simp at hcs ⊢
        omega
end Go.Proofs.Ytcghhhjklihpkaa
