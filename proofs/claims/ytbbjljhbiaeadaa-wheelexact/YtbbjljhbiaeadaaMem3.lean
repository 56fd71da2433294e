/- Memory, part 3: calls within calls; loops that count; reading by place. -/
import Derived.Test.YtbbjljhbiaeadaaMem2
set_option linter.unusedSimpArgs false
set_option linter.unusedVariables false
namespace Go.Bk
open Go.RowKit

theorem St.call {w0 w w' : World} {M : Nat → Prop} {h hp : HP} (hs : St w0 M h w) (hc : St w no hp w') : St w0 M (hp ++ h) w' :=
  hs.add hc.tr (fun p hp' => ⟨hc.has p hp', (hc.own p hp').elim (fun h => h.elim) id⟩) hc.nd

/-- A call that changes the blocks hin. -/
theorem St.mod {w0 w w' : World} {M : Nat → Prop} {hin h hout : HP} (hs : St w0 M (hin ++ h) w) (hc : St w (fun i => i ∈ keys hin) hout w') : St w0 M (hout ++ h) w' := by
  have hnd := hs.nd
  simp only [keys, List.map_append, List.nodup_append] at hnd
  have hown : ∀ i, i ∈ keys hin → M i ∨ w0.heap.size ≤ i := fun i hi => by
    obtain ⟨p, hp, rfl⟩ := List.mem_map.1 hi
    exact hs.own p (List.mem_append_left _ hp)
  refine ⟨hs.tr.trans hc.tr hown, fun p hp => ?_, fun p hp => ?_, ?_⟩
  · rcases List.mem_append.1 hp with hp | hp
    · exact hc.has p hp
    · refine hc.tr.has (hs.has p (List.mem_append_right _ hp)) (fun hi => ?_)
      exact hnd.2.2 p.1 hi p.1 (List.mem_map.2 ⟨p, hp, rfl⟩) rfl
  · rcases List.mem_append.1 hp with hp | hp
    · rcases hc.own p hp with hi | hi
      · exact hown _ hi
      · exact .inr (Nat.le_trans hs.tr.size hi)
    · exact hs.own p (List.mem_append_right _ hp)
  · unfold keys
    rw [List.map_append, List.nodup_append]
    refine ⟨hc.nd, hnd.2.1, ?_⟩
    intro a ha b hb e
    subst e
    obtain ⟨p, hp, rfl⟩ := List.mem_map.1 ha
    obtain ⟨q, hq, he⟩ := List.mem_map.1 hb
    rcases hc.own p hp with hi | hi
    · exact hnd.2.2 p.1 hi p.1 (he ▸ List.mem_map.2 ⟨q, hq, rfl⟩) rfl
    · have := hs.lt (List.mem_append_right hin hq)
      omega
theorem St.self {w0 w : World} {M : Nat → Prop} {hin h : HP} (hs : St w0 M (hin ++ h) w) : St w (fun i => i ∈ keys hin) hin w :=
  ⟨Tr.refl _ _, fun p hp => hs.has p (List.mem_append_left _ hp), fun p hp => .inl (List.mem_map.2 ⟨p, hp, rfl⟩), by
    have hnd := hs.nd
    simp only [keys, List.map_append, List.nodup_append] at hnd
    exact hnd.1⟩
theorem St.start {w0 w : World} {M : Nat → Prop} {h : HP} (hs : St w0 M h w) : St w no [] w := St.nil w no

theorem pLoop_up {I : Nat → List Value → World → Prop} (n i : Nat) {init : List Value} {w : World} {body : (List Value → World → Prop) → List Value → World → Prop} (hi : i ≤ n) (h0 : I i init w)
    (step : ∀ i vs w, i ≤ n → I i vs w → ∀ go : List Value → World → Prop, (∀ vs' w', i < n → I (i + 1) vs' w' → go vs' w') → body go vs w) : pLoop init w body := by
  refine ⟨fun m vs w => m ≤ n ∧ I (n - m) vs w, n - i, ⟨by omega, by rw [show n - (n - i) = i by omega]; exact h0⟩, ?_⟩
  rintro m vs w ⟨hm, hI⟩
  refine step (n - m) vs w (by omega) hI _ (fun vs' w' hlt hI' => ⟨m - 1, by omega, by omega, ?_⟩)
  rw [show n - (m - 1) = n - m + 1 by omega]
  exact hI'

theorem RdC.len {w : World} {sz n : Nat} {v : Value} {l : List Value} (h : RdC w sz v n l) : lenS v = some (.int .i64 n) := by
  obtain ⟨_, a, c, rfl, _⟩ := h; rfl
theorem OwnS.len {e sz n : Nat} {v : Value} {xs : List Value} {hp : HP} (h : OwnS e sz v n xs hp) : lenS v = some (.int .i64 n) := by
  obtain ⟨a, c, rfl, _⟩ := h.slice; rfl
theorem RdC.at1 {w : World} {n : Nat} {v : Value} {l : List Value} (h : RdC w 1 v n l) {i : Nat} {u : Value} (hu : l[i]? = some u) {x : Int} (hx : x = i) :
    ∃ ad, idxV 1 v (.int .i64 x) = some (.pointer (some ad)) ∧ w.cell? ad = some u := by
  have hi : i < n := by
    have := (List.getElem?_eq_some_iff.1 hu).1
    rw [h.1] at this; omega
  obtain ⟨ad, h1, h2⟩ := h.idx hi hx
  refine ⟨ad, h1, ?_⟩
  have : (l.drop (i * 1)).take 1 = [u] := by
    rw [Nat.mul_one, List.take_one, List.head?_drop, hu]; rfl
  rw [this] at h2
  exact h2.one
theorem CellsAt.fld {w : World} {a : Addr} {l : List Value} (h : CellsAt w a l) {j : Nat} {u : Value} (hu : l[j]? = some u) : ldV false 1 w (.pointer (some (a.add j))) = some u := h j u hu
theorem flat_slot {α : Type} (f : α → List Value) (sz : Nat) (hf : ∀ a, (f a).length = sz) : ∀ (l : List α) (i : Nat) (a : α), l[i]? = some a → (((l.map f).flatten).drop (i * sz)).take sz = f a
  | [], i, a, h => by simp at h
  | b :: l, 0, a, h => by
    simp only [List.getElem?_cons_zero, Option.some.injEq] at h
    subst h
    simp only [Nat.zero_mul, List.drop_zero, List.map_cons, List.flatten_cons]
    rw [← hf b, List.take_left]
  | b :: l, i + 1, a, h => by
    simp only [List.getElem?_cons_succ] at h
    simp only [List.map_cons, List.flatten_cons]
    rw [Nat.add_mul, Nat.one_mul, Nat.add_comm, ← List.drop_drop]
    have : (f b ++ (l.map f).flatten).drop sz = (l.map f).flatten := by rw [← hf b, List.drop_left]
    rw [this]
    exact flat_slot f sz hf l i a h
theorem flat_len {α : Type} (f : α → List Value) (sz : Nat) (hf : ∀ a, (f a).length = sz) (l : List α) : ((l.map f).flatten).length = l.length * sz := by
  induction l with
  | nil => simp
  | cons b l ih => simp [ih, hf, Nat.add_mul]; omega
theorem flat_take {α : Type} (f : α → List Value) (sz : Nat) (hf : ∀ a, (f a).length = sz) : ∀ (l : List α) (i : Nat), ((l.map f).flatten).take (i * sz) = ((l.take i).map f).flatten
  | [], i => by simp
  | b :: l, 0 => by simp
  | b :: l, i + 1 => by
    simp only [List.map_cons, List.flatten_cons, List.take_succ_cons]
    rw [Nat.add_mul, Nat.one_mul, List.take_append, hf]
    rw [List.take_of_length_le (by rw [hf]; omega), Nat.add_sub_cancel, flat_take f sz hf l i]
theorem flat_drop {α : Type} (f : α → List Value) (sz : Nat) (hf : ∀ a, (f a).length = sz) : ∀ (l : List α) (i : Nat), ((l.map f).flatten).drop (i * sz) = ((l.drop i).map f).flatten
  | [], i => by simp
  | b :: l, 0 => by simp
  | b :: l, i + 1 => by
    simp only [List.map_cons, List.flatten_cons, List.drop_succ_cons]
    rw [Nat.add_mul, Nat.one_mul, List.drop_append, hf]
    rw [List.drop_of_length_le (by rw [hf]; omega), Nat.add_sub_cancel, flat_drop f sz hf l i]; rfl
/-! how often a block stands in a list -/
noncomputable def cnt1 (a b : Nat × Blk) : Nat := by classical exact if b = a then 1 else 0
noncomputable def cnt (a : Nat × Blk) : HP → Nat
  | [] => 0
  | b :: l => cnt1 a b + cnt a l
theorem cnt_nil (a : Nat × Blk) : cnt a [] = 0 := rfl
theorem cnt_cons (a b : Nat × Blk) (l : HP) : cnt a (b :: l) = cnt1 a b + cnt a l := rfl
theorem cnt_append (a : Nat × Blk) (l r : HP) : cnt a (l ++ r) = cnt a l + cnt a r := by
  induction l with
  | nil => simp [cnt]
  | cons b l ih => simp only [List.cons_append, cnt_cons, ih]; omega
theorem cnt_mem {a : Nat × Blk} : ∀ {l : HP}, 0 < cnt a l → ∃ l1 l2, l = l1 ++ a :: l2
  | [], h => by simp [cnt] at h
  | b :: l, h => by
    by_cases e : b = a
    · subst e; exact ⟨[], l, rfl⟩
    · have h1 : cnt1 a b = 0 := by simp [cnt1, e]
      rw [cnt_cons, h1, Nat.zero_add] at h
      obtain ⟨l1, l2, rfl⟩ := cnt_mem h
      exact ⟨b :: l1, l2, rfl⟩
theorem cnt_perm {a : Nat × Blk} {l r : HP} (h : l.Perm r) : cnt a l = cnt a r := by
  induction h with
  | nil => rfl
  | cons x _ ih => simp only [cnt_cons, ih]
  | swap x y l => simp only [cnt_cons]; omega
  | trans _ _ h1 h2 => exact h1.trans h2
theorem cnt1_self (a : Nat × Blk) : cnt1 a a = 1 := by simp [cnt1]
theorem cnt_sub : ∀ (l h : HP), (∀ a, cnt a l ≤ cnt a h) → ∃ r, h.Perm (l ++ r)
  | [], h, _ => ⟨h, List.Perm.refl _⟩
  | b :: l, h, hc => by
    have h0 := hc b
    rw [cnt_cons, cnt1_self] at h0
    obtain ⟨h1, h2, rfl⟩ := cnt_mem (a := b) (l := h) (by omega)
    have hp : (h1 ++ b :: h2).Perm (b :: (h1 ++ h2)) := List.perm_middle
    obtain ⟨r, hr⟩ := cnt_sub l (h1 ++ h2) (fun a => by
      have := hc a
      simp only [cnt_cons, cnt_append] at this ⊢
      omega)
    exact ⟨r, hp.trans (hr.cons b)⟩
theorem St.re {w0 w : World} {M : Nat → Prop} {h h' : HP} (hs : St w0 M h w) (hc : ∀ a, cnt a h' ≤ cnt a h) : St w0 M h' w := by
  obtain ⟨r, hp⟩ := cnt_sub h' h hc
  exact (hs.perm hp).sub (List.sublist_append_left h' r)

theorem Has.ld {w : World} {b : Nat} {c : Blk} (h : Has w b c) (o sz : Nat) : ldV false sz w (.pointer (some ⟨b, o, none⟩)) = c.cells[o]? := h.cell o
theorem Has.ldw {w : World} {b : Nat} {c : Blk} (h : Has w b c) {sz : Nat} (hl : c.cells.length = sz) : ldV true sz w (.pointer (some ⟨b, 0, none⟩)) = some (.agg c.cells.toArray) :=
  ldN (by have := h.cellsAt 0; simpa using this) hl
theorem St.top {w0 w : World} {M : Nat → Prop} {h : HP} {b : Nat} {c : Blk} (hs : St w0 M ((b, c) :: h) w) : Has w b c := hs.has _ (List.mem_cons_self ..)
theorem St.top2 {w0 w : World} {M : Nat → Prop} {h : HP} {a : Nat × Blk} {b : Nat} {c : Blk} (hs : St w0 M (a :: (b, c) :: h) w) : Has w b c := hs.has (b, c) (by simp)
theorem pU_st {w0 w : World} {M : Nat → Prop} {h : HP} {b o sz : Nat} {cs : List Value} {ty : TypeId} {v : Value} (hs : St w0 M ((b, ⟨cs, ty⟩) :: h) w) (cs' : List Value) (hsz : v.cells.size = sz) (hl : o + sz ≤ cs.length) (hv : ∀ u ∈ v.cells.toList, oneC u = true)
    (he : cs' = cs.take o ++ v.cells.toList ++ cs.drop (o + sz)) {K : World → Prop} (k : ∀ w', St w0 M ((b, ⟨cs', ty⟩) :: h) w' → Tr w (fun k => k = b) w' → K w') : pU (stE sz (.pointer (some ⟨b, o, none⟩)) v w) K := by
  obtain ⟨w', h1, h2, h3⟩ := hs.store hsz hl hv
  subst he
  exact pU_eq h1 (k w' h2 h3)
theorem pE_boxc {w0 w : World} {M : Nat → Prop} {h : HP} (hs : St w0 M h w) {t : TypeId} {v : Value} (cs : List Value) (he : v.cells.toList = cs) {K : Value → World → Prop}
    (k : ∀ b w', St w0 M ((b, ⟨cs, t⟩) :: h) w' → Tr w no w' → w.heap.size ≤ b → K (.pointer (some ⟨b, 0, none⟩)) w') : pE (boxE t v w) K := by
  subst he; exact pE_box hs k
theorem OwnS.one {e sz n : Nat} {v : Value} {xs : List Value} {hp : HP} (h : OwnS e sz v n xs hp) : oneC v = true := by
  obtain ⟨a, c, rfl, _⟩ := h.slice; rfl
theorem OwnS.cells {e sz n : Nat} {v : Value} {xs : List Value} {hp : HP} (h : OwnS e sz v n xs hp) : v.cells = #[v] := by
  obtain ⟨a, c, rfl, _⟩ := h.slice; rfl
theorem RdC.one {w : World} {sz n : Nat} {v : Value} {l : List Value} (h : RdC w sz v n l) : oneC v = true := by
  obtain ⟨_, a, c, rfl, _⟩ := h; rfl
theorem RdC.cells {w : World} {sz n : Nat} {v : Value} {l : List Value} (h : RdC w sz v n l) : v.cells = #[v] := by
  obtain ⟨_, a, c, rfl, _⟩ := h; rfl
theorem oneC_cells {v : Value} (h : oneC v = true) : v.cells = #[v] := by
  cases v <;> first | rfl | cases h
/-- Storing one cell. -/
theorem pU_st1 {w0 w : World} {M : Nat → Prop} {h : HP} {b o : Nat} {cs : List Value} {ty : TypeId} {v : Value} (hs : St w0 M ((b, ⟨cs, ty⟩) :: h) w) (hv : oneC v = true) (cs' : List Value) (hl : o + 1 ≤ cs.length)
    (he : cs' = cs.take o ++ [v] ++ cs.drop (o + 1)) {K : World → Prop} (k : ∀ w', St w0 M ((b, ⟨cs', ty⟩) :: h) w' → Tr w (fun k => k = b) w' → K w') : pU (stE 1 (.pointer (some ⟨b, o, none⟩)) v w) K :=
  pU_st hs cs' (by rw [oneC_cells hv]; rfl) hl (by rw [oneC_cells hv]; simpa using hv) (by rw [oneC_cells hv]; exact he) k
theorem pE_mkc {w0 w : World} {M : Nat → Prop} {h : HP} (hs : St w0 M h w) {e sz : Nat} {vs : List Value} (cs : List Value) (he : (vs.map (·.cells.toList)).flatten = cs) (hv : ∀ v ∈ vs, v.cells.size = sz) {K : Value → World → Prop}
    (k : ∀ b w', St w0 M ((b, ⟨cs, e⟩) :: h) w' → Tr w no w' → w.heap.size ≤ b → K (.slice (some ⟨b, 0, none⟩) vs.length vs.length) w') : pE (mkE e sz vs w) K := by
  subst he; exact pE_mk hs hv k
theorem pSC_orp (b c : Bool) (w : World) (R : Value → World → Prop) : pSC false (.bool b) w (fun J => J (.bool c) w) R = R (.bool (b || c)) w := by
  apply propext
  refine ⟨?_, fun h => pSC_or c (fun _ J hJ => hJ) h⟩
  rintro ⟨_, J, h1, h2, h3⟩
  cases b
  · exact h3 _ _ (h1 rfl)
  · exact h3 _ _ (h2 rfl)
theorem pSC_andp (b c : Bool) (w : World) (R : Value → World → Prop) : pSC true (.bool b) w (fun J => J (.bool c) w) R = R (.bool (b && c)) w := by
  apply propext
  refine ⟨?_, fun h => pSC_and c (fun _ J hJ => hJ) h⟩
  rintro ⟨_, J, h1, h2, h3⟩
  cases b
  · exact h3 _ _ (h2 rfl)
  · exact h3 _ _ (h1 rfl)
theorem bne_dec (a b : Int) : (a != b) = !decide (a = b) := rfl
theorem beq_dec (a b : Int) : (a == b) = decide (a = b) := rfl
theorem lt_bool {a b : Int} : binV .lss (.int .i64 a) (.int .i64 b) = some (.bool (decide (a < b))) := rfl
end Go.Bk
