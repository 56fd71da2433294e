/- Memory, part 4: rows of one size in a block; appending with the old one kept. -/
import Derived.Test.YtbbjljhbiaeadaaStep
set_option linter.unusedSimpArgs false
set_option linter.unusedVariables false
namespace Go.Bk
open Go.RowKit

theorem idx_lit {sz n c g o i : Nat} (hi : i < n) {x : Int} (hx : x = i) : idxV sz (.slice (some ⟨g, o, none⟩) n c) (.int .i64 x) = some (.pointer (some ⟨g, o + i * sz, none⟩)) := by
  subst hx
  simp only [idxV]
  rw [if_pos ⟨by omega, by omega⟩, add_lit]
  simp
theorem set_eq {α : Type} (l : List α) {o : Nat} (h : o < l.length) (v : α) : l.set o v = l.take o ++ [v] ++ l.drop (o + 1) := by
  rw [List.set_eq_take_append_cons_drop, if_pos h]; simp

section
variable {α : Type} (f : α → List Value) (sz : Nat) (hf : ∀ a, (f a).length = sz)
  include hf
theorem flat_get : ∀ (l : List α) (i : Nat) (a : α) (sp : List Value), l[i]? = some a → ∀ j, j < sz → ((l.map f).flatten ++ sp)[i * sz + j]? = (f a)[j]?
  | [], i, a, sp, h, j, hj => by simp at h
  | b :: l, 0, a, sp, h, j, hj => by
    simp only [List.getElem?_cons_zero, Option.some.injEq] at h
    subst h
    simp only [Nat.zero_mul, Nat.zero_add, List.map_cons, List.flatten_cons, List.append_assoc]
    rw [List.getElem?_append_left (by rw [hf]; exact hj)]
  | b :: l, i + 1, a, sp, h, j, hj => by
    simp only [List.getElem?_cons_succ] at h
    simp only [List.map_cons, List.flatten_cons, List.append_assoc]
    rw [List.getElem?_append_right (by rw [hf, Nat.add_mul]; omega), hf, show (i + 1) * sz + j - sz = i * sz + j by rw [Nat.add_mul]; omega]
    exact flat_get l i a sp h j hj
theorem flat_put : ∀ (l : List α) (i : Nat) (a : α) (sp : List Value), i < l.length → ((l.map f).flatten ++ sp).take (i * sz) ++ f a ++ ((l.map f).flatten ++ sp).drop (i * sz + sz) = ((l.set i a).map f).flatten ++ sp
  | [], i, a, sp, h => by simp at h
  | b :: l, 0, a, sp, h => by
    simp only [Nat.zero_mul, List.take_zero, Nat.zero_add, List.map_cons, List.flatten_cons, List.append_assoc, List.set_cons_zero, List.nil_append]
    rw [← hf b, List.drop_left]
  | b :: l, i + 1, a, sp, h => by
    have ih := flat_put l i a sp (by simpa using h)
    simp only [List.map_cons, List.flatten_cons, List.append_assoc, List.set_cons_succ] at ih ⊢
    rw [show (i + 1) * sz = (f b).length + i * sz by rw [hf, Nat.add_mul]; omega, List.take_append, List.take_of_length_le (by omega), Nat.add_sub_cancel_left, Nat.add_assoc, ← List.drop_drop, List.drop_left, List.append_assoc, ih]
theorem flat_set1 : ∀ (l : List α) (i : Nat) (a a' : α) (sp : List Value) (j : Nat) (v : Value), l[i]? = some a → j < sz → f a' = (f a).set j v → ((l.map f).flatten ++ sp).set (i * sz + j) v = ((l.set i a').map f).flatten ++ sp
  | [], i, a, a', sp, j, v, h, hj, he => by simp at h
  | b :: l, 0, a, a', sp, j, v, h, hj, he => by
    simp only [List.getElem?_cons_zero, Option.some.injEq] at h
    subst h
    simp only [Nat.zero_mul, Nat.zero_add, List.map_cons, List.flatten_cons, List.append_assoc, List.set_cons_zero]
    rw [List.set_append_left _ _ (by rw [hf]; exact hj), he]
  | b :: l, i + 1, a, a', sp, j, v, h, hj, he => by
    simp only [List.getElem?_cons_succ] at h
    have ih := flat_set1 l i a a' sp j v h hj he
    simp only [List.map_cons, List.flatten_cons, List.append_assoc, List.set_cons_succ]
    rw [List.set_append_right _ _ (by rw [hf, Nat.add_mul]; omega), hf, show (i + 1) * sz + j - sz = i * sz + j by rw [Nat.add_mul]; omega, ih]
end

/-- Storing one cell of a block. -/
theorem pU_set {w0 w : World} {M : Nat → Prop} {h : HP} {b o : Nat} {cs : List Value} {ty : TypeId} {v : Value} (hs : St w0 M ((b, ⟨cs, ty⟩) :: h) w) (hv : oneC v = true) (cs' : List Value) (hl : o < cs.length) (he : cs' = cs.set o v)
    {K : World → Prop} (k : ∀ w', St w0 M ((b, ⟨cs', ty⟩) :: h) w' → Tr w (fun k => k = b) w' → K w') : pU (stE 1 (.pointer (some ⟨b, o, none⟩)) v w) K :=
  pU_st1 hs hv cs' (by omega) (by rw [he, set_eq _ hl]) k

/-- Appending; the old one's blocks are told too. -/
theorem append_keep {P : Program} {w0 w : World} {M : Nat → Prop} {h hp : HP} {t e sz bytes ty n m : Nat} {z : Value} (T : SlTy P t e sz bytes z) {v x : Value} {xs news : List Value} (ho : OwnS e sz v n xs hp) (hs : St w0 M (hp ++ h) w)
    {xa : Option Addr} {c : Nat} (hx : x = .slice xa m c) (hxn : xa = none → m = 0) (hm0 : m ≠ 0) (hl : news.length = m * sz) (hnews : ∀ ad, xa = some ad → CellsAt w ad news) (h1 : ∀ u ∈ news, u.oneCell' = true)
    (h63 : n + m ≤ maxLen) (hb : (n + m) * bytes ≤ 140737488355328) {K : Value → World → Prop}
    (k : ∀ v' hp' w', OwnS e sz v' (n + m) (xs ++ news) hp' → (St w0 M (hp' ++ (hp ++ h)) w' ∨ (St w0 M (hp' ++ h) w' ∧ ∃ g cap sp, v = .slice (some ⟨g, 0, none⟩) n cap ∧ v' = .slice (some ⟨g, 0, none⟩) (n + m) cap ∧ hp = [(g, ⟨xs ++ sp, e⟩)] ∧ news.length ≤ sp.length ∧ hp' = [(g, ⟨xs ++ news ++ sp.drop news.length, e⟩)])) → K v' w') : pE (semE P (Builtin.append_ #[t, t] ty #[v, x]) w) K := by
  subst hx
  obtain ⟨i, hi, hsz, hby, hz⟩ := T.i
  subst hsz
  subst hby
  have hsmall : n + m ≤ 9223372036854775807 := by simp only [maxLen] at h63; omega
  have fin : ∀ v' w', (Builtin.append_ #[t, t] ty #[v, .slice xa m c]).run P w = .ok v' w' → K v' w' → pE (semE P (Builtin.append_ #[t, t] ty #[v, .slice xa m c]) w) K := by
    intro v' w' hr hk
    unfold pE semE; rw [hr]; exact hk
  obtain ⟨ad, rfl⟩ : ∃ ad, xa = some ad := by
    cases xa with
    | none => exact absurd (hxn rfl) hm0
    | some ad => exact ⟨ad, rfl⟩
  have grown : ∀ (old : Nat), n + m ≤ maxLen → ∀ v', v' = .slice (some ⟨w.heap.size, 0, none⟩) (n + m) (grownCap w (n + m) old e) →
      ∀ cs : Array Value, cs = xs.toArray ++ news.toArray ++ Builtin.zeroCells z.cells (grownCap w (n + m) old e - (n + m)) → K v' (w.drew.alloc (.cells cs e)) := by
    intro old hmx v' hv' cs hcs
    subst hv' hcs
    have hge := grownCap_ge w (n + m) old e
    have hcm := grownCap_le_maxLen w (n + m) old e h63
    have hd := hs.gr (Tr.draw w)
    have ha := hd.alloc (xs ++ news ++ (Builtin.zeroCells z.cells (grownCap w (n + m) old e - (n + m))).toList) e
    refine k _ [(w.heap.size, ⟨xs ++ news ++ (Builtin.zeroCells z.cells (grownCap w (n + m) old e - (n + m))).toList, e⟩)] _ ⟨by rw [List.length_append, ho.1, hl, Nat.add_mul], .inr ⟨w.heap.size, _, (Builtin.zeroCells z.cells (grownCap w (n + m) old e - (n + m))).toList, rfl, hge, hcm, ?_, rfl⟩⟩ (.inl ?_)
    · simp only [List.length_append, Array.length_toList, size_zeroCells, T.z, ho.1, hl, ← Nat.add_mul]
      exact Nat.mul_le_mul_right _ (by omega)
    · have e1 : xs.toArray ++ news.toArray ++ Builtin.zeroCells z.cells (grownCap w (n + m) old e - (n + m)) = (xs ++ news ++ (Builtin.zeroCells z.cells (grownCap w (n + m) old e - (n + m))).toList).toArray := by
        apply Array.ext'; simp
      rw [e1]
      exact ha
  rcases ho.2 with ⟨rfl, rfl, rfl⟩ | ⟨g, cap, sp, rfl, hnc, hcm, hcs, rfl⟩
  · have hxs : xs = [] := List.eq_nil_of_length_eq_zero (by simpa using ho.1)
    subst hxs
    have hr := run_append_nil (P := P) w t ty e i z T.t hi hz ad m c news hl (hnews ad rfl) (by omega) (by omega) (by have hb := hb; simp only [Nat.zero_add] at hb; omega)
    refine fin _ _ hr (grown 0 h63 _ (by simp) _ (by simp))
  · have hg := hs.has _ (List.mem_cons_self ..)
    by_cases hroom : n + m ≤ cap
    · have hfit : n * i.size + news.length ≤ (xs ++ sp).toArray.size := by rw [List.size_toArray, hl, ← Nat.add_mul]; exact Nat.le_trans (Nat.mul_le_mul_right _ hroom) hcs
      have hr := run_append_room (P := P) w t ty e i T.t hi g n cap (xs ++ sp).toArray hg ad m c news hl (hnews ad rfl) h1 hroom hfit
      have hcell : (xs ++ sp).take (n * i.size) ++ news ++ (xs ++ sp).drop (n * i.size + news.length) = xs ++ news ++ sp.drop news.length := by
        rw [← ho.1, List.take_left, ← List.drop_drop, List.drop_left]
      rw [List.toList_toArray, hcell] at hr
      have hsp : news.length ≤ sp.length := by
        simp only [List.size_toArray, List.length_append] at hfit
        have := ho.1
        omega
      refine fin _ _ hr (k _ [(g, ⟨xs ++ news ++ sp.drop news.length, e⟩)] _ ⟨by rw [List.length_append, ho.1, hl, Nat.add_mul], .inr ⟨g, cap, sp.drop news.length, rfl, hroom, hcm, ?_, rfl⟩⟩ (.inr ⟨?_, g, cap, sp, rfl, rfl, rfl, hsp, rfl⟩))
      · simp only [List.length_append, List.length_drop] at hcs ⊢
        omega
      · exact hs.write (Tr.setRow w g _) (by
          have := setRow_heap w g (xs ++ sp).toArray (xs ++ news ++ sp.drop news.length).toArray e (0, 0) hg
          exact this)
    · have holds : ∀ j u, xs[j]? = some u → w.cell? ((⟨g, 0, none⟩ : Addr).add j) = some u := by
        have := ho.at hs _ _ rfl ⟨g, 0, none⟩ rfl
        exact this
      have hr := run_append_grow (P := P) w t ty e i z T.t hi hz ⟨g, 0, none⟩ n cap xs ho.1 holds ad m c news hl (hnews ad rfl) (by omega) (by omega) (growslice_fits (by omega) hb)
      exact fin _ _ hr (grown cap h63 _ rfl _ rfl)

/-- A slice of one's own cut shorter, its capacity kept. -/
theorem OwnS.cut {e sz n : Nat} {v : Value} {xs ys : List Value} {hp : HP} (h : OwnS e sz v n (xs ++ ys) hp) {m : Nat} (hm : m ≤ n) (hx : xs.length = m * sz) {x : Int} (hxx : x = m) : ∃ v', slV sz v none (some (.int .i64 x)) none = some v' ∧ OwnS e sz v' m xs hp := by
  subst hxx
  rcases h.2 with ⟨rfl, rfl, rfl⟩ | ⟨g, cap, sp, rfl, hn, hc, hcs, rfl⟩
  · obtain rfl : m = 0 := by omega
    have hl := h.1
    simp at hl
    refine ⟨.slice none 0 0, by simp [slV, bnd], ?_⟩
    rw [hl.1]; exact ownS_nil _ _
  · refine ⟨.slice (some ⟨g, 0, none⟩) m cap, ?_, hx, .inr ⟨g, cap, ys ++ sp, rfl, by omega, hc, by simpa using hcs, by simp⟩⟩
    simp [slV, bnd, show m ≤ cap by omega, add_zero]
/-- A slice of one's own whose capacity is cut to its length. -/
theorem OwnS.clip {e sz n : Nat} {v : Value} {xs : List Value} {hp : HP} (h : OwnS e sz v n xs hp) {x y : Int} (hx : x = n) (hy : y = n) : ∃ v', slV sz v none (some (.int .i64 x)) (some (.int .i64 y)) = some v' ∧ OwnS e sz v' n xs hp := by
  subst hx hy
  rcases h.2 with ⟨rfl, rfl, rfl⟩ | ⟨g, cap, sp, rfl, hn, hc, hcs, rfl⟩
  · exact ⟨.slice none 0 0, by simp [slV, bnd, hiD], h⟩
  · refine ⟨.slice (some ⟨g, 0, none⟩) n n, ?_, h.1, .inr ⟨g, n, sp, rfl, Nat.le_refl _, by omega, Nat.le_trans (Nat.mul_le_mul_right _ hn) hcs, rfl⟩⟩
    simp [slV, bnd, show n ≤ cap by omega, add_zero]
/-- A slice that is read, cut, its capacity too. -/
theorem RdC.take3 {w : World} {sz n : Nat} {v : Value} {l : List Value} (h : RdC w sz v n l) {m : Nat} (hm : m ≤ n) {x y : Int} (hx : x = m) (hy : y = m) : ∃ v', slV sz v none (some (.int .i64 x)) (some (.int .i64 y)) = some v' ∧ RdC w sz v' m (l.take (m * sz)) := by
  subst hx hy
  obtain ⟨hl, a, c, rfl, hn, h0, hc⟩ := h
  refine ⟨.slice (if m = 0 then a else a.map (·.add (0 * sz))) (m - 0) (m - 0), ?_, ?_⟩
  · simp [slV, bnd, show m ≤ c by omega]
  · have ha : (if m = 0 then a else a.map (·.add (0 * sz))) = a := by
      split
      · rfl
      · cases a <;> simp [add_zero]
    rw [ha]
    refine ⟨by rw [List.length_take, hl]; exact Nat.min_eq_left (Nat.mul_le_mul_right _ hm), a, m, rfl, by omega, fun h => by have := h0 h; omega, fun ad had => (hc ad had).take _⟩
/-- A slice that is read, from one place to another. -/
theorem RdC.cut {w : World} {sz n : Nat} {v : Value} {l : List Value} (h : RdC w sz v n l) {a b : Nat} (hab : a ≤ b) (hb : b ≤ n) {x y : Int} (hx : x = a) (hy : y = b) : ∃ v', slV sz v (some (.int .i64 x)) (some (.int .i64 y)) none = some v' ∧ RdC w sz v' (b - a) ((l.take (b * sz)).drop (a * sz)) := by
  obtain ⟨v1, h1, r1⟩ := h.take hb hy
  obtain ⟨v2, h2, r2⟩ := r1.drop hab hx
  refine ⟨v2, ?_, r2⟩
  subst hx hy
  obtain ⟨hl, ad, c, rfl, hn, h0, hc⟩ := h
  simp [slV, bnd, hiD, show b ≤ c by omega] at h1
  have e : v1 = .slice ad b c := by
    rw [← h1]
    cases ad <;> simp [add_zero]
  subst e
  simp [slV, bnd, hiD, hab] at h2
  simp [slV, bnd, hiD, show b ≤ c by omega, hab]
  exact h2
end Go.Bk
