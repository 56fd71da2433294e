/- Memory, part 2: steps; slices that are read; lists of what is owned. -/
import Derived.Test.YtbbjljhbiaeadaaMem1
set_option linter.unusedSimpArgs false
set_option linter.unusedVariables false
namespace Go.Bk
open Go.RowKit

theorem pV_some (v : Value) (K : Value → Prop) : pV (some v) K = K v := rfl
theorem pE_some (v : Value) (w : World) (K : Value → World → Prop) : pE (some (v, w)) K = K v w := rfl
theorem pU_some (w : World) (K : World → Prop) : pU (some w) K = K w := rfl
theorem pV_eq {o : Option Value} {v : Value} {K : Value → Prop} (h : o = some v) (k : K v) : pV o K := by rw [h]; exact k
theorem pE_eq {o : Option (Value × World)} {v : Value} {w : World} {K : Value → World → Prop} (h : o = some (v, w)) (k : K v w) : pE o K := by rw [h]; exact k
theorem pU_eq {o : Option World} {w : World} {K : World → Prop} (h : o = some w) (k : K w) : pU o K := by rw [h]; exact k
theorem nth0 (a : Value) (l : List Value) : nth (a :: l) 0 = a := rfl
theorem nth1 (a b : Value) (l : List Value) : nth (a :: b :: l) 1 = b := rfl
theorem nth2 (a b c : Value) (l : List Value) : nth (a :: b :: c :: l) 2 = c := rfl
theorem nth3 (a b c d : Value) (l : List Value) : nth (a :: b :: c :: d :: l) 3 = d := rfl
theorem nth4 (a b c d e : Value) (l : List Value) : nth (a :: b :: c :: d :: e :: l) 4 = e := rfl
theorem nth5 (a b c d e f : Value) (l : List Value) : nth (a :: b :: c :: d :: e :: f :: l) 5 = f := rfl
theorem nth6 (a b c d e f g : Value) (l : List Value) : nth (a :: b :: c :: d :: e :: f :: g :: l) 6 = g := rfl
theorem pIf_bool (b : Bool) (A B : Prop) : pIf (.bool b) A B = ((b = true → A) ∧ (b = false → B)) := by
  apply propext
  unfold pIf
  cases b <;> simp
theorem pIf_true {A B : Prop} (h : A) : pIf (.bool true) A B := by unfold pIf; simpa using h
theorem pIf_false {A B : Prop} (h : B) : pIf (.bool false) A B := by unfold pIf; simpa using h
theorem pIf_of {b : Bool} {A B : Prop} (h : b = true → A) (k : b = false → B) : pIf (.bool b) A B := by rw [pIf_bool]; exact ⟨h, k⟩
/-- '&&', '||' whose second side only looks: it comes to c where it is asked. -/
theorem pSC_bool (s b : Bool) (w : World) (A : (Value → World → Prop) → Prop) (R : Value → World → Prop) : pSC s (.bool b) w A R = ∃ J : Value → World → Prop, (b = s → A J) ∧ (b = (!s) → J (.bool (!s)) w) ∧ ∀ v w', J v w' → R v w' := by
  apply propext
  unfold pSC
  simp
theorem pSC_val {s b : Bool} {w : World} {A : (Value → World → Prop) → Prop} {R : Value → World → Prop} (c : Bool) (hA : b = s → ∀ J : Value → World → Prop, J (.bool c) w → A J) (hR : R (.bool (if b = s then c else !s)) w) : pSC s (.bool b) w A R := by
  rw [pSC_bool]
  refine ⟨fun v w' => v = .bool (if b = s then c else !s) ∧ w' = w, fun hb => hA hb _ ⟨by rw [if_pos hb], rfl⟩, fun hb => ⟨?_, rfl⟩, ?_⟩
  · rw [if_neg]; intro h; subst h; cases b <;> cases hb
  · rintro v w' ⟨rfl, rfl⟩; exact hR
theorem pSC_and {b : Bool} {w : World} {A : (Value → World → Prop) → Prop} {R : Value → World → Prop} (c : Bool) (hA : b = true → ∀ J : Value → World → Prop, J (.bool c) w → A J) (hR : R (.bool (b && c)) w) : pSC true (.bool b) w A R :=
  pSC_val c hA (by cases b <;> exact hR)
theorem pSC_or {b : Bool} {w : World} {A : (Value → World → Prop) → Prop} {R : Value → World → Prop} (c : Bool) (hA : b = false → ∀ J : Value → World → Prop, J (.bool c) w → A J) (hR : R (.bool (b || c)) w) : pSC false (.bool b) w A R :=
  pSC_val c hA (by cases b <;> exact hR)
theorem pJoin_id {A : (List Value → World → Prop) → Prop} {R : List Value → World → Prop} (h : A R) : pJoin A R := ⟨R, h, fun _ _ h => h⟩
theorem pDraw_gr {w : World} {K : World → Prop} (k : ∀ w', Tr w no w' → w'.heap = w.heap → K w') : pDraw w K := k _ (Tr.draw w) rfl
theorem pDraw_st {w0 w : World} {M : Nat → Prop} {h : HP} (hs : St w0 M h w) {K : World → Prop} (k : ∀ w', St w0 M h w' → Tr w no w' → K w') : pDraw w K := k _ hs.draw (Tr.draw w)

theorem wrap_i64 {x : Int} (h : -9223372036854775808 ≤ x) (h' : x < 9223372036854775808) : IntKind.i64.wrap x = x := IntWalk.i64_in x (by omega)

theorem pE_box {w0 w : World} {M : Nat → Prop} {h : HP} (hs : St w0 M h w) {t : TypeId} {v : Value} {K : Value → World → Prop}
    (k : ∀ b w', St w0 M ((b, ⟨v.cells.toList, t⟩) :: h) w' → Tr w no w' → w.heap.size ≤ b → K (.pointer (some ⟨b, 0, none⟩)) w') : pE (boxE t v w) K :=
  k _ _ (hs.alloc v.cells.toList t) (Tr.alloc w _) (Nat.le_refl _)

theorem pE_mk {w0 w : World} {M : Nat → Prop} {h : HP} (hs : St w0 M h w) {e sz : Nat} {vs : List Value} (hv : ∀ v ∈ vs, v.cells.size = sz) {K : Value → World → Prop}
    (k : ∀ b w', St w0 M ((b, ⟨(vs.map (·.cells.toList)).flatten, e⟩) :: h) w' → Tr w no w' → w.heap.size ≤ b → K (.slice (some ⟨b, 0, none⟩) vs.length vs.length) w') : pE (mkE e sz vs w) K := by
  have : vs.all (fun v => Nat.beq v.cells.size sz) = true := by
    rw [List.all_eq_true]; intro v hm; rw [hv v hm]; exact Nat.beq_refl _
  unfold mkE
  rw [this]
  exact k _ _ (hs.alloc (vs.map (·.cells.toList)).flatten e) (Tr.alloc w _) (Nat.le_refl _)

theorem St.cell {w0 w : World} {M : Nat → Prop} {h : HP} (hs : St w0 M h w) {b : Nat} {c : Blk} (hm : (b, c) ∈ h) {o sz : Nat} {v : Value} (hv : c.cells[o]? = some v) : ldV false sz w (.pointer (some ⟨b, o, none⟩)) = some v :=
  ld1 (by rw [(hs.has _ hm).cell]; exact hv)
theorem St.whole {w0 w : World} {M : Nat → Prop} {h : HP} (hs : St w0 M h w) {b : Nat} {c : Blk} (hm : (b, c) ∈ h) {sz : Nat} (hl : c.cells.length = sz) : ldV true sz w (.pointer (some ⟨b, 0, none⟩)) = some (.agg c.cells.toArray) :=
  ldN (by have := (hs.has _ hm).cellsAt 0; simpa using this) hl

/-! slices that are read -/
/-- v is a slice of n elements of sz cells, which are the cells l. -/
def RdC (w : World) (sz : Nat) (v : Value) (n : Nat) (l : List Value) : Prop :=
  l.length = n * sz ∧ ∃ a c, v = .slice a n c ∧ n ≤ c ∧ (a = none → n = 0) ∧ ∀ ad, a = some ad → CellsAt w ad l

theorem RdC.tr {w w' : World} {M : Nat → Prop} {sz n : Nat} {v : Value} {l : List Value} (h : RdC w sz v n l) (ht : Tr w M w') (hm : ∀ i, i < w.heap.size → ¬ M i) : RdC w' sz v n l := by
  obtain ⟨hl, a, c, hv, hn, h0, hc⟩ := h
  refine ⟨hl, a, c, hv, hn, h0, fun ad ha j u hj => ?_⟩
  have := hc ad ha j u hj
  exact ht.cell this (hm _ (World.block_lt_of_cell? w _ this))
theorem RdC.gr {w w' : World} {sz n : Nat} {v : Value} {l : List Value} (h : RdC w sz v n l) (ht : Tr w no w') : RdC w' sz v n l := h.tr ht (fun _ _ h => h)
theorem RdC.slice {w : World} {sz n : Nat} {v : Value} {l : List Value} (h : RdC w sz v n l) : ∃ a c, v = .slice a n c := by
  obtain ⟨_, a, c, hv, _⟩ := h; exact ⟨a, c, hv⟩
theorem RdC.idx {w : World} {sz n : Nat} {v : Value} {l : List Value} (h : RdC w sz v n l) {i : Nat} (hi : i < n) {x : Int} (hx : x = i) : ∃ ad, idxV sz v (.int .i64 x) = some (.pointer (some ad)) ∧ CellsAt w ad ((l.drop (i * sz)).take sz) := by
  subst hx
  obtain ⟨_, a, c, rfl, _, h0, hc⟩ := h
  cases a with
  | none => have := h0 rfl; omega
  | some ad =>
    refine ⟨ad.add (i * sz), ?_, ((hc ad rfl).drop _).take _⟩
    simp only [idxV]
    rw [if_pos ⟨by omega, by omega⟩]
    simp
theorem RdC.take {w : World} {sz n : Nat} {v : Value} {l : List Value} (h : RdC w sz v n l) {m : Nat} (hm : m ≤ n) {x : Int} (hx : x = m) : ∃ v', slV sz v none (some (.int .i64 x)) none = some v' ∧ RdC w sz v' m (l.take (m * sz)) := by
  subst hx
  obtain ⟨hl, a, c, rfl, hn, h0, hc⟩ := h
  refine ⟨.slice (if c = 0 then a else a.map (·.add (0 * sz))) (m - 0) (c - 0), ?_, ?_⟩
  · simp [slV, bnd, show m ≤ c by omega]
  · have ha : (if c = 0 then a else a.map (·.add (0 * sz))) = a := by
      split
      · rfl
      · cases a <;> simp [add_zero]
    rw [ha]
    refine ⟨by rw [List.length_take, hl]; exact Nat.min_eq_left (Nat.mul_le_mul_right _ hm), a, c, rfl, by omega, fun h => by have := h0 h; omega, fun ad had => (hc ad had).take _⟩
theorem RdC.drop {w : World} {sz n : Nat} {v : Value} {l : List Value} (h : RdC w sz v n l) {m : Nat} (hm : m ≤ n) {x : Int} (hx : x = m) : ∃ v', slV sz v (some (.int .i64 x)) none none = some v' ∧ RdC w sz v' (n - m) (l.drop (m * sz)) := by
  subst hx
  obtain ⟨hl, a, c, rfl, hn, h0, hc⟩ := h
  refine ⟨.slice (if c = m then a else a.map (·.add (m * sz))) (n - m) (c - m), ?_, ?_⟩
  · simp [slV, bnd, hiD, hm]
  · refine ⟨by rw [List.length_drop, hl, Nat.sub_mul], _, _, rfl, by omega, fun h => ?_, fun ad had => ?_⟩
    · split at h
      · omega
      · cases a with
        | none => have := h0 rfl; omega
        | some _ => cases h
    · split at had
      · have : l.drop (m * sz) = [] := List.drop_eq_nil_of_le (by rw [hl]; exact Nat.mul_le_mul_right _ (by omega))
        rw [this]; exact cellsAt_nil _ _
      · cases a with
        | none => cases had
        | some a0 => cases had; exact (hc a0 rfl).drop _

theorem OwnS.reads {w0 w : World} {M : Nat → Prop} {h hp : HP} {e sz n : Nat} {v : Value} {xs : List Value} (ho : OwnS e sz v n xs hp) (hs : St w0 M (hp ++ h) w) : RdC w sz v n xs := by
  refine ⟨ho.1, ?_⟩
  have hat := ho.at hs
  rcases ho.2 with ⟨rfl, rfl, _⟩ | ⟨g, cap, sp, rfl, hn, _⟩
  · exact ⟨_, _, rfl, Nat.le_refl _, fun _ => rfl, fun ad h => (by cases h)⟩
  · exact ⟨_, _, rfl, hn, fun h => (by cases h), fun ad h => hat _ _ rfl ad h⟩

end Go.Bk
