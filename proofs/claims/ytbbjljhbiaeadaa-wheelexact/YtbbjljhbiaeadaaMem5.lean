/- Memory, part 5: lists of things of one's own, each with blocks of its own. -/
import Derived.Test.YtbbjljhbiaeadaaMem4
set_option linter.unusedSimpArgs false
set_option linter.unusedVariables false
namespace Go.Bk
open Go.RowKit

/-- Each of xs owns blocks by R; together they're h (in any order). -/
inductive OwnAll {α : Type} (R : α → HP → Prop) : List α → HP → Prop
  | nil {h} : (∀ a, cnt a h = 0) → OwnAll R [] h
  | cons {x xs k g h} : R x k → OwnAll R xs g → (∀ a, cnt a h = cnt a k + cnt a g) → OwnAll R (x :: xs) h

section
variable {α : Type} {R : α → HP → Prop}
theorem OwnAll.re {xs : List α} {h h' : HP} (ho : OwnAll R xs h) (hc : ∀ a, cnt a h' = cnt a h) : OwnAll R xs h' := by
  cases ho with
  | nil h0 => exact .nil (fun a => by rw [hc, h0])
  | cons hr hs h0 => exact .cons hr hs (fun a => by rw [hc, h0])
theorem OwnAll.none : OwnAll R [] [] := .nil (fun _ => rfl)
theorem OwnAll.append {xs ys : List α} {h g : HP} (ho : OwnAll R xs h) (hy : OwnAll R ys g) : OwnAll R (xs ++ ys) (h ++ g) := by
  induction ho with
  | nil h0 => exact hy.re (fun a => by rw [cnt_append, h0]; omega)
  | cons hr _ h0 ih => exact .cons hr ih (fun a => by simp only [cnt_append, h0]; omega)
theorem OwnAll.one {x : α} {k : HP} (hr : R x k) : OwnAll R [x] k := .cons hr .none (fun a => by simp [cnt_nil])
theorem OwnAll.snoc {xs : List α} {x : α} {h k : HP} (ho : OwnAll R xs h) (hr : R x k) : OwnAll R (xs ++ [x]) (k ++ h) :=
  (ho.append (.one hr)).re (fun a => by simp only [cnt_append]; omega)
theorem OwnAll.focus {xs : List α} {h : HP} (ho : OwnAll R xs h) : ∀ {i : Nat} {x : α}, xs[i]? = some x → ∃ k g, R x k ∧ (∀ a, cnt a h = cnt a k + cnt a g) ∧ ∀ y k', R y k' → OwnAll R (xs.set i y) (k' ++ g) := by
  induction ho with
  | nil => intro i x hx; simp at hx
  | cons hr hs h0 ih =>
    rename_i x0 xs k0 g0 h
    intro i x hx
    cases i with
    | zero =>
      simp only [List.getElem?_cons_zero, Option.some.injEq] at hx
      subst hx
      exact ⟨k0, g0, hr, h0, fun y k' hy => .cons hy hs (fun a => by rw [cnt_append])⟩
    | succ i =>
      simp only [List.getElem?_cons_succ] at hx
      obtain ⟨k, g, h1, h2, h3⟩ := ih hx
      refine ⟨k, k0 ++ g, h1, fun a => by rw [h0, h2, cnt_append]; omega, fun y k' hy => ?_⟩
      exact .cons hr (h3 y k' hy) (fun a => by simp only [cnt_append]; omega)
theorem OwnAll.perm {xs ys : List α} (hp : xs.Perm ys) : ∀ h : HP, OwnAll R xs h → OwnAll R ys h := by
  induction hp with
  | nil => intro h ho; exact ho
  | cons x _ ih =>
    intro h ho
    cases ho with
    | cons hr hs h0 => exact .cons hr (ih _ hs) h0
  | swap x y l =>
    intro h ho
    cases ho with
    | cons hr hs h0 =>
      cases hs with
      | cons hr' hs' h0' => exact .cons hr' (.cons hr hs' (fun a => cnt_append a _ _)) (fun a => by rw [h0, h0', cnt_append]; omega)
  | trans _ _ h1 h2 => intro h ho; exact h2 _ (h1 _ ho)
theorem OwnAll.all {xs : List α} {h : HP} (ho : OwnAll R xs h) : ∀ x ∈ xs, ∃ k, R x k := by
  induction ho with
  | nil => intro x hx; cases hx
  | cons hr _ _ ih =>
    intro x hx
    rcases List.mem_cons.1 hx with rfl | hx
    · exact ⟨_, hr⟩
    · exact ih x hx
theorem OwnAll.map {β : Type} {Q : β → HP → Prop} (f : α → β) (hf : ∀ x k, R x k → Q (f x) k) {xs : List α} {h : HP} (ho : OwnAll R xs h) : OwnAll Q (xs.map f) h := by
  induction ho with
  | nil h0 => exact .nil h0
  | cons hr _ h0 ih => exact .cons (hf _ _ hr) ih h0
/-- What each one's blocks tell, all tell. -/
theorem OwnAll.reads {w0 w : World} {M : Nat → Prop} {xs : List α} {h r : HP} (ho : OwnAll R xs h) (hs : St w0 M (h ++ r) w) {Q : α → Prop} (hq : ∀ x k r, R x k → St w0 M (k ++ r) w → Q x) : ∀ x ∈ xs, Q x := by
  intro x hx
  obtain ⟨i, hi⟩ := List.getElem?_of_mem hx
  obtain ⟨k, g, h1, h2, _⟩ := ho.focus hi
  exact hq x k (g ++ r) h1 (hs.re (fun a => by simp only [cnt_append, h2]; omega))
end
theorem St.eqc {w0 w : World} {M : Nat → Prop} {h h' r : HP} (hs : St w0 M (h ++ r) w) (hc : ∀ a, cnt a h = cnt a h') : St w0 M (h' ++ r) w :=
  hs.re (fun a => by simp only [cnt_append, hc]; omega)
theorem St.gone {w0 w w' : World} {M : Nat → Prop} {hin h : HP} (hs : St w0 M (hin ++ h) w) (ht : Tr w (fun i => i ∈ keys hin) w') : St w0 M h w' :=
  hs.mod (hout := []) ⟨ht, fun _ h => (by cases h), fun _ h => (by cases h), List.nodup_nil⟩
end Go.Bk
