/- Reading arguments: slices opened; all that was handed in reads as it did. -/
import Derived.Test.YtbbjljhbiaeadaaMem5
import Derived.Deep.Slices
import Derived.Lib.SmallJoins
import Derived.Carry
import Derived.OpenShut
set_option linter.unusedSimpArgs false
set_option linter.unusedVariables false
namespace Go.Bk
open Go.RowKit Go.ChangeShapes Go.WideShapes Go.Deep

section
variable {H : Type} {enc : TypeId × Value → H} {P : Program} {w : World} {spare : Nat → Bool} {held : Bool}

theorem cellsAt_of {base : Nat} {a : Addr} {n : Nat} {cs : List Value} (h : w.cells? base a n = some cs) : cs.length = n ∧ CellsAt w a cs := by
  obtain ⟨_, h2, h3⟩ := World.cells?_some h
  refine ⟨h2, fun j u hj => ?_⟩
  have hlt := (List.getElem?_eq_some_iff.1 hj).1
  rw [h3 j (by omega), hj]

theorem cellsAt_flat {a : Addr} {sz : Nat} : ∀ (n : Nat) (f : Nat → List Value), (∀ i, i < n → (f i).length = sz ∧ CellsAt w (a.add (i * sz)) (f i)) → CellsAt w a ((List.range n).map f).flatten ∧ ((List.range n).map f).flatten.length = n * sz
  | 0, f, h => ⟨cellsAt_nil _ _, by simp⟩
  | n + 1, f, h => by
    obtain ⟨h1, h2⟩ := cellsAt_flat n f (fun i hi => h i (by omega))
    obtain ⟨h3, h4⟩ := h n (by omega)
    rw [List.range_succ]
    simp only [List.map_append, List.map_cons, List.map_nil, List.flatten_append, List.flatten_cons, List.flatten_nil, List.append_nil]
    refine ⟨h1.append (by rw [h2]; exact h4), by rw [List.length_append, h2, h3, Nat.add_mul]; omega⟩

/-- A slice opened: its elements' cells, what each reads as. -/
theorem open_sl {t e : TypeId} {fuel : Nat} {cs : List Value} {x : DataW H × List MemPlace} (ht : P.underlying t = some (.slice e)) (h : DataW.trod enc P w 0 spare held fuel t cs = some x) :
    ∃ (v : Value) (n m : Nat) (f : Nat → List Value) (D : Nat → DataW H) (Pl : Nat → List MemPlace) (sp : List (DataW H)), cs = [v] ∧ n ≤ maxLen ∧ RdC w (P.cellsOf e) v n ((List.range n).map f).flatten ∧
      (∀ i, i < n → (f i).length = P.cellsOf e ∧ DataW.trod enc P w 0 spare held m e (f i) = some (D i, Pl i)) ∧ ((n = 0 ∧ x.1 = .nil) ∨ x.1 = .slice ((List.range n).map D) sp) := by
  rcases open_slice ht h with ⟨rfl, rfl⟩ | ⟨a, len, cap, m, n, D, Pl, rfl, _, hl, hcm, hm, rfl, hx⟩
  · exact ⟨_, 0, 0, fun _ => [], fun _ => .nil, fun _ => [], [], rfl, Nat.zero_le _, ⟨by simp, none, 0, rfl, Nat.le_refl _, fun _ => rfl, fun ad h => by cases h⟩, fun i hi => by omega, .inl ⟨rfl, rfl⟩⟩
  · have hle : len ≤ m := by rw [hm]; split <;> omega
    obtain ⟨f, hf⟩ := choose_lt (α := List Value) (n := len) (p := fun i cs' => w.cells? 0 (a.add (i * P.cellsOf e)) (P.cellsOf e) = some cs' ∧ DataW.trod enc P w 0 spare held n e cs' = some (D i, Pl i)) (fun i hi => hx i (by omega))
    obtain ⟨h1, h2⟩ := cellsAt_flat (w := w) (a := a) (sz := P.cellsOf e) len f (fun i hi => cellsAt_of (hf i hi).1)
    refine ⟨_, len, n, f, D, Pl, (List.range (m - len)).map fun j => D (len + j), rfl, Nat.le_trans hl hcm, ⟨h2, some a, cap, rfl, hl, fun h => (by cases h), fun ad h => ?_⟩, fun i hi => ⟨(cellsAt_of (hf i hi).1).1, (hf i hi).2⟩, .inr rfl⟩
    cases h
    exact h1

theorem trodAll_stays (hl : laidOutB P = true) {W W' : World} {sp : Nat → Bool} : ∀ {ts : List TypeId} {vs : List Value} {ds : List (DataW H)} {ps : List MemPlace}, (∀ t ∈ ts, P.readableRec t = true ∧ t < P.types.size) →
    DataW.TrodAll enc P W 0 (fun _ => true) true ts vs ds ps → (∀ p ∈ ps, W.sameAt W' p) → (∀ p ∈ ps, sp p.block = true) → DataW.TrodAll enc P W' 0 sp true ts vs ds ps
  | [], vs, ds, ps, _, h, _, _ => by
    obtain ⟨rfl, rfl, rfl⟩ := trodAll_nil h
    exact trodAll_mk0
  | t :: ts, vs, ds, ps, ht, h, h1, h2 => by
    obtain ⟨v, vs', d, ds', p, q, rfl, rfl, rfl, h0, hr⟩ := trodAll_cons h
    have hr0 := ht t (List.mem_cons_self ..)
    exact trodAll_cons_mk (WideElems.Trod_stays hl hr0.1 hr0.2 h0 (fun x hx => h1 x (List.mem_append_left _ hx)) (fun x hx => h2 x (List.mem_append_left _ hx)))
      (trodAll_stays hl (fun t' ht' => ht t' (List.mem_cons_of_mem _ ht')) hr (fun x hx => h1 x (List.mem_append_right _ hx)) (fun x hx => h2 x (List.mem_append_right _ hx)))

theorem Tr.below {w w' : World} (h : Tr w no w') : Below w.heap.size w w' := ⟨h.os, h.tape, h.output, h.size, fun k hk => h.keep k hk (fun h => h)⟩
end
end Go.Bk
