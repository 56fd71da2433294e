/- Memory: what a call keeps ('Tr'), blocks of the call's own ('St'), reading ('CellsAt', 'RdSl'), and the primitives over them. -/
import Derived.Test.YtbbjljhbiaeadaaEn5
import Derived.WalkKit
import Derived.Laws.OwnMore
set_option linter.unusedSimpArgs false
set_option linter.unusedVariables false
namespace Go.Bk
open Go.RowKit

/-- What a block is: cells of a type; or another thing (a map ..), which has no cells. -/
inductive Kd where
  | t (t : TypeId)
  | o (ob : Obj)
instance (n : Nat) : OfNat Kd n := ⟨.t n⟩
instance : Coe TypeId Kd := ⟨.t⟩
structure Blk where
  cells : List Value
  ty : Kd

abbrev HP := List (Nat × Blk)

def Has (w : World) (b : Nat) (c : Blk) : Prop :=
  match c.ty with
  | .t t => w.heap[b]? = some (.cells c.cells.toArray t (0, 0))
  | .o ob => c.cells = [] ∧ w.heap[b]? = some ob ∧ ∀ cs t f, ob ≠ .cells cs t f

/-- Behind a call: all but the blocks of M is as it was; there may be more. -/
structure Tr (w : World) (M : Nat → Prop) (w' : World) : Prop where
  os : w'.os = w.os
  tape : w'.tape = w.tape
  output : w'.output = w.output
  size : w.heap.size ≤ w'.heap.size
  keep : ∀ i, i < w.heap.size → ¬ M i → w'.heap[i]? = w.heap[i]?

abbrev no : Nat → Prop := fun _ => False

theorem Tr.refl (w : World) (M : Nat → Prop) : Tr w M w := ⟨rfl, rfl, rfl, Nat.le_refl _, fun _ _ _ => rfl⟩
theorem Tr.mono {w w' : World} {M M' : Nat → Prop} (h : Tr w M w') (hm : ∀ i, i < w.heap.size → M i → M' i) : Tr w M' w' :=
  ⟨h.os, h.tape, h.output, h.size, fun i hi hn => h.keep i hi (fun hm' => hn (hm i hi hm'))⟩
theorem Tr.trans {a b c : World} {M M' : Nat → Prop} (h : Tr a M b) (k : Tr b M' c) (hm : ∀ i, M' i → M i ∨ a.heap.size ≤ i) : Tr a M c :=
  ⟨k.os.trans h.os, k.tape.trans h.tape, k.output.trans h.output, Nat.le_trans h.size k.size, fun i hi hn =>
    (k.keep i (Nat.lt_of_lt_of_le hi h.size) (fun h' => (hm i h').elim hn (fun h'' => by omega))).trans (h.keep i hi hn)⟩
theorem Tr.then_ {a b c : World} {M : Nat → Prop} (h : Tr a M b) (k : Tr b no c) : Tr a M c := h.trans k (fun _ h => h.elim)
theorem Tr.from_no {a b : World} {M : Nat → Prop} (h : Tr a no b) : Tr a M b := h.mono (fun _ _ h => h.elim)
theorem Tr.draw (w : World) : Tr w no { w with drawn := w.drawn + 1 } := ⟨rfl, rfl, rfl, Nat.le_refl _, fun _ _ _ => rfl⟩
theorem Tr.alloc (w : World) (o : Obj) : Tr w no (w.alloc o) := ⟨rfl, rfl, rfl, by simp, fun i hi _ => Below.heap_alloc w o i hi⟩
theorem Tr.cell {w w' : World} {M : Nat → Prop} (h : Tr w M w') {a : Addr} {v : Value} (hc : w.cell? a = some v) (hm : ¬ M a.block) : w'.cell? a = some v := by
  have hb := World.block_lt_of_cell? w a hc
  have := h.keep a.block hb hm
  unfold World.cell? at *
  rw [this]; exact hc
theorem Tr.has {w w' : World} {M : Nat → Prop} (h : Tr w M w') {b : Nat} {c : Blk} (hc : Has w b c) (hm : ¬ M b) : Has w' b c := by
  obtain ⟨cs, k⟩ := c
  cases k with
  | t t =>
    have hc : w.heap[b]? = some (.cells cs.toArray t (0, 0)) := hc
    have hb : b < w.heap.size := (Array.getElem?_eq_some_iff.1 hc).1
    exact (h.keep b hb hm).trans hc
  | o ob =>
    obtain ⟨h1, h2, h3⟩ := hc
    have hb : b < w.heap.size := (Array.getElem?_eq_some_iff.1 h2).1
    exact ⟨h1, (h.keep b hb hm).trans h2, h3⟩
theorem Has.lt {w : World} {b : Nat} {c : Blk} (h : Has w b c) : b < w.heap.size := by
  obtain ⟨cs, k⟩ := c
  cases k with
  | t t =>
    have h : w.heap[b]? = some (.cells cs.toArray t (0, 0)) := h
    exact (Array.getElem?_eq_some_iff.1 h).1
  | o ob => exact (Array.getElem?_eq_some_iff.1 h.2.1).1

theorem add_add (a : Addr) (i j : Nat) : (a.add i).add j = a.add (i + j) := by
  unfold Addr.add
  by_cases hi : i = 0
  · subst hi; simp
  · by_cases hj : j = 0
    · subst hj; simp
    · simp [hi, hj, Nat.add_assoc]
theorem add_zero (a : Addr) : a.add 0 = a := by simp [Addr.add]
theorem add_block (a : Addr) (i : Nat) : (a.add i).block = a.block := by unfold Addr.add; split <;> rfl
theorem add_lit (b o n : Nat) : (⟨b, o, none⟩ : Addr).add n = ⟨b, o + n, none⟩ := by unfold Addr.add; split <;> simp_all

/-- From a on the cells l lie. -/
def CellsAt (w : World) (a : Addr) (l : List Value) : Prop := ∀ j u, l[j]? = some u → w.cell? (a.add j) = some u

theorem CellsAt.tr {w w' : World} {M : Nat → Prop} {a : Addr} {l : List Value} (h : CellsAt w a l) (ht : Tr w M w') (hm : ¬ M a.block) : CellsAt w' a l :=
  fun j u hj => ht.cell (h j u hj) (by rw [add_block]; exact hm)
theorem CellsAt.one {w : World} {a : Addr} {v : Value} {l : List Value} (h : CellsAt w a (v :: l)) : w.cell? a = some v := by
  have := h 0 v rfl; rwa [add_zero] at this
theorem CellsAt.drop {w : World} {a : Addr} {l : List Value} (h : CellsAt w a l) (k : Nat) : CellsAt w (a.add k) (l.drop k) := fun j u hj => by
  rw [add_add]; exact h (k + j) u (by rw [← hj, List.getElem?_drop])
theorem CellsAt.take {w : World} {a : Addr} {l : List Value} (h : CellsAt w a l) (k : Nat) : CellsAt w a (l.take k) := fun j u hj => by
  by_cases hlt : j < k
  · rw [List.getElem?_take, if_pos hlt] at hj; exact h j u hj
  · rw [List.getElem?_take, if_neg hlt] at hj; cases hj
theorem CellsAt.lt {w : World} {a : Addr} {v : Value} {l : List Value} (h : CellsAt w a (v :: l)) : a.block < w.heap.size := World.block_lt_of_cell? w a h.one
theorem cellsAt_nil (w : World) (a : Addr) : CellsAt w a [] := fun j u h => by simp at h
theorem CellsAt.append {w : World} {a : Addr} {l r : List Value} (h : CellsAt w a l) (k : CellsAt w (a.add l.length) r) : CellsAt w a (l ++ r) := fun j u hj => by
  by_cases hlt : j < l.length
  · exact h j u (by rw [List.getElem?_append_left hlt] at hj; exact hj)
  · have hj' : r[j - l.length]? = some u := by rw [List.getElem?_append_right (by omega)] at hj; exact hj
    have := k (j - l.length) u hj'
    rw [add_add, show l.length + (j - l.length) = j by omega] at this
    exact this

theorem Has.cell {w : World} {b : Nat} {c : Blk} (h : Has w b c) (o : Nat) : w.cell? ⟨b, o, none⟩ = c.cells[o]? := by
  obtain ⟨cs, k⟩ := c
  cases k with
  | t t =>
    have h : w.heap[b]? = some (.cells cs.toArray t (0, 0)) := h
    rw [cell_of_row w b o cs.toArray t (0, 0) h]; simp
  | o ob =>
    obtain ⟨h1, h2, h3⟩ := h
    have h1 : cs = [] := h1
    subst h1
    unfold World.cell?
    rw [show (⟨b, o, none⟩ : Addr).block = b from rfl, h2]
    cases ob with
    | cells a b c => exact absurd rfl (h3 a b c)
    | _ => simp
theorem Has.cellsAt {w : World} {b : Nat} {c : Blk} (h : Has w b c) (o : Nat) : CellsAt w ⟨b, o, none⟩ (c.cells.drop o) := fun j u hj => by
  rw [add_lit, h.cell, ← hj, List.getElem?_drop]
theorem Has.frozen {w : World} {b : Nat} {c : Blk} (h : Has w b c) (o : Nat) : w.frozen? ⟨b, o, none⟩ = false := by
  obtain ⟨cs, k⟩ := c
  cases k with
  | t t =>
    have h : w.heap[b]? = some (.cells cs.toArray t (0, 0)) := h
    simp [World.frozen?, h]
  | o ob =>
    obtain ⟨h1, h2, h3⟩ := h
    unfold World.frozen?
    rw [show (⟨b, o, none⟩ : Addr).block = b from rfl, h2]
    cases ob with
    | cells a b c => exact absurd rfl (h3 a b c)
    | _ => rfl

/-! loads -/
theorem ldC_of {w : World} {a : Addr} : ∀ (l : List Value) (i : Nat) (acc : Array Value), (∀ j u, l[j]? = some u → w.cell? (a.add (i + j)) = some u) → ldC w a i l.length acc = some (acc ++ l.toArray) := by
  intro l
  induction l with
  | nil => intro i acc _; simp [ldC]
  | cons v l ih =>
    intro i acc h
    have h0 := h 0 v rfl
    rw [Nat.add_zero] at h0
    simp only [List.length_cons, ldC, h0]
    rw [ih (i + 1) (acc.push v) (fun j u hj => by have := h (j + 1) u hj; rw [show i + 1 + j = i + (j + 1) by omega]; exact this)]
    simp

theorem ldN {w : World} {a : Addr} {l : List Value} {sz : Nat} (h : CellsAt w a l) (hl : l.length = sz) : ldV true sz w (.pointer (some a)) = some (.agg l.toArray) := by
  subst hl
  simp only [ldV, cond_true, ldC_of l 0 #[] (fun j u hj => by rw [Nat.zero_add]; exact h j u hj)]
  simp
theorem ld1 {w : World} {a : Addr} {v : Value} {sz : Nat} (h : w.cell? a = some v) : ldV false sz w (.pointer (some a)) = some v := h

/-! blocks of the call's own -/
def keys (h : HP) : List Nat := h.map (·.1)

structure St (w0 : World) (M : Nat → Prop) (h : HP) (w : World) : Prop where
  tr : Tr w0 M w
  has : ∀ p ∈ h, Has w p.1 p.2
  own : ∀ p ∈ h, M p.1 ∨ w0.heap.size ≤ p.1
  nd : (keys h).Nodup

theorem St.nil (w : World) (M : Nat → Prop) : St w M [] w := ⟨Tr.refl _ _, fun _ h => (by cases h), fun _ h => (by cases h), List.nodup_nil⟩
theorem St.perm {w0 w : World} {M : Nat → Prop} {h h' : HP} (hs : St w0 M h w) (hp : h.Perm h') : St w0 M h' w :=
  ⟨hs.tr, fun p hp' => hs.has p (hp.mem_iff.2 hp'), fun p hp' => hs.own p (hp.mem_iff.2 hp'), (hp.map _).nodup_iff.1 hs.nd⟩
theorem St.sub {w0 w : World} {M : Nat → Prop} {h h' : HP} (hs : St w0 M h w) (hp : h'.Sublist h) : St w0 M h' w :=
  ⟨hs.tr, fun p hp' => hs.has p (hp.subset hp'), fun p hp' => hs.own p (hp.subset hp'), (hp.map _).nodup hs.nd⟩
theorem St.gr {w0 w w' : World} {M : Nat → Prop} {h : HP} (hs : St w0 M h w) (ht : Tr w no w') : St w0 M h w' :=
  ⟨hs.tr.then_ ht, fun p hp => ht.has (hs.has p hp) (fun h => h), hs.own, hs.nd⟩
theorem St.draw {w0 w : World} {M : Nat → Prop} {h : HP} (hs : St w0 M h w) : St w0 M h { w with drawn := w.drawn + 1 } := hs.gr (Tr.draw w)
theorem St.lt {w0 w : World} {M : Nat → Prop} {h : HP} (hs : St w0 M h w) {p : Nat × Blk} (hp : p ∈ h) : p.1 < w.heap.size := (hs.has p hp).lt
theorem St.add {w0 w w' : World} {M : Nat → Prop} {h n : HP} (hs : St w0 M h w) (ht : Tr w no w') (hn : ∀ p ∈ n, Has w' p.1 p.2 ∧ w.heap.size ≤ p.1) (hd : (keys n).Nodup) : St w0 M (n ++ h) w' := by
  refine ⟨hs.tr.then_ ht, fun p hp => ?_, fun p hp => ?_, ?_⟩
  · rcases List.mem_append.1 hp with hp | hp
    · exact (hn p hp).1
    · exact ht.has (hs.has p hp) (fun h => h)
  · rcases List.mem_append.1 hp with hp | hp
    · exact .inr (Nat.le_trans hs.tr.size (hn p hp).2)
    · exact hs.own p hp
  · unfold keys at *
    rw [List.map_append, List.nodup_append]
    refine ⟨hd, hs.nd, ?_⟩
    intro a ha b hb e
    subst e
    obtain ⟨p, hp, rfl⟩ := List.mem_map.1 ha
    obtain ⟨q, hq, he⟩ := List.mem_map.1 hb
    have := hs.lt hq
    have := (hn p hp).2
    omega
theorem has_alloc (w : World) (cs : List Value) (t : TypeId) : Has (w.alloc (.cells cs.toArray t)) w.heap.size ⟨cs, t⟩ := heap_alloc_new w _
theorem St.allocK {w0 w : World} {M : Nat → Prop} {h : HP} (hs : St w0 M h w) (o : Obj) (c : Blk) (hc : Has (w.alloc o) w.heap.size c) : St w0 M ((w.heap.size, c) :: h) (w.alloc o) :=
  hs.add (n := [(w.heap.size, c)]) (Tr.alloc w _) (fun p hp => by
    have : p = (w.heap.size, c) := by simpa using hp
    subst this
    exact ⟨hc, Nat.le_refl _⟩) (by simp [keys])
theorem St.alloc {w0 w : World} {M : Nat → Prop} {h : HP} (hs : St w0 M h w) (cs : List Value) (t : TypeId) : St w0 M ((w.heap.size, ⟨cs, t⟩) :: h) (w.alloc (.cells cs.toArray t)) :=
  hs.allocK _ _ (has_alloc w cs t)

/-- The first block written anew. -/
theorem St.write {w0 w w' : World} {M : Nat → Prop} {h : HP} {b : Nat} {c c' : Blk} (hs : St w0 M ((b, c) :: h) w) (ht : Tr w (fun i => i = b) w') (hc : Has w' b c') : St w0 M ((b, c') :: h) w' := by
  have hnd := hs.nd
  simp only [keys, List.map_cons, List.nodup_cons] at hnd
  refine ⟨hs.tr.trans ht (fun i hi => by subst hi; exact hs.own (i, c) (List.mem_cons_self ..)), fun p hp => ?_, fun p hp => ?_, hs.nd⟩
  · rcases List.mem_cons.1 hp with rfl | hp
    · exact hc
    · refine ht.has (hs.has p (List.mem_cons_of_mem _ hp)) (fun e => hnd.1 ?_)
      rw [← e]
      exact List.mem_map.2 ⟨p, hp, rfl⟩
  · rcases List.mem_cons.1 hp with rfl | hp
    · exact hs.own (b, c) (List.mem_cons_self ..)
    · exact hs.own p (List.mem_cons_of_mem _ hp)

theorem Tr.setRow (w : World) (g : Nat) (cs : Array Value) : Tr w (fun i => i = g) (w.setRow g cs) :=
  ⟨rfl, rfl, rfl, by simp [World.setRow], fun k _ hk => setRow_other w g k _ hk⟩

/-! stores -/
theorem stC_row {b : Nat} {ty : TypeId} : ∀ (l : List Value) (i : Nat) (w : World) (cs : List Value) (o : Nat), Has w b ⟨cs, ty⟩ → o + i + l.length ≤ cs.length → (∀ v ∈ l, oneC v = true) →
    ∃ w', stC w ⟨b, o, none⟩ l i = some w' ∧ Tr w (fun k => k = b) w' ∧ Has w' b ⟨cs.take (o + i) ++ l ++ cs.drop (o + i + l.length), ty⟩ := by
  intro l
  induction l with
  | nil => intro i w cs o h _ _; exact ⟨w, rfl, Tr.refl _ _, by simpa using h⟩
  | cons v l ih =>
    intro i w cs o h hl hv
    have hlt : o + i < cs.length := by simp at hl; omega
    have hc : w.cell? ((⟨b, o, none⟩ : Addr).add i) = some cs[o + i] := by rw [add_lit, h.cell]; simp [hlt]
    have hf : w.frozen? ((⟨b, o, none⟩ : Addr).add i) = false := by rw [add_lit]; exact h.frozen _
    have hset : Has (w.setCell ((⟨b, o, none⟩ : Addr).add i) v) b ⟨cs.set (o + i) v, ty⟩ := by
      simp only [Has] at *
      rw [add_lit]
      simp only [World.setCell, Array.getElem?_modify, if_true, h, Option.map_some]
      simp
    have ht : Tr w (fun k => k = b) (w.setCell ((⟨b, o, none⟩ : Addr).add i) v) := ⟨rfl, rfl, rfl, by simp [World.setCell], fun k _ hk => Below.heap_setCell w _ v k (by rw [add_block]; exact hk)⟩
    obtain ⟨w', h1, h2, h3⟩ := ih (i + 1) _ (cs.set (o + i) v) o hset (by simp at hl ⊢; omega) (fun u hu => hv u (List.mem_cons_of_mem _ hu))
    refine ⟨w', ?_, ht.trans h2 (fun i hi => .inl hi), ?_⟩
    · unfold stC
      rw [hc]
      simp only [hf, hv v (List.mem_cons_self ..), Bool.not_true, Bool.or_self, cond_false]
      exact h1
    · have e : (cs.set (o + i) v).take (o + (i + 1)) ++ l ++ (cs.set (o + i) v).drop (o + (i + 1) + l.length) = cs.take (o + i) ++ (v :: l) ++ cs.drop (o + i + (v :: l).length) := by
        rw [show o + (i + 1) = o + i + 1 by omega, List.take_succ_eq_append_getElem (by simpa using hlt), List.drop_set_of_lt (by omega), List.take_set_of_le (Nat.le_refl _)]
        simp only [List.getElem_set_self, List.append_assoc, List.cons_append, List.nil_append, List.length_cons]
        rw [show o + i + 1 + l.length = o + i + (l.length + 1) by omega]
      rw [e] at h3
      exact h3

theorem St.store {w0 w : World} {M : Nat → Prop} {h : HP} {b o sz : Nat} {cs : List Value} {ty : TypeId} {v : Value} (hs : St w0 M ((b, ⟨cs, ty⟩) :: h) w) (hsz : v.cells.size = sz) (hl : o + sz ≤ cs.length) (hv : ∀ u ∈ v.cells.toList, oneC u = true) :
    ∃ w', stE sz (.pointer (some ⟨b, o, none⟩)) v w = some w' ∧ St w0 M ((b, ⟨cs.take o ++ v.cells.toList ++ cs.drop (o + sz), ty⟩) :: h) w' ∧ Tr w (fun k => k = b) w' := by
  obtain ⟨w', h1, h2, h3⟩ := stC_row v.cells.toList 0 w cs o (hs.has _ (List.mem_cons_self ..)) (by simp [hsz]; omega) hv
  refine ⟨w', ?_, ?_, h2⟩
  · have hb : Nat.beq sz sz = true := Nat.beq_refl sz
    simp only [stE, hsz, hb, cond_true]; exact h1
  · have : cs.take (o + 0) ++ v.cells.toList ++ cs.drop (o + 0 + v.cells.toList.length) = cs.take o ++ v.cells.toList ++ cs.drop (o + sz) := by simp [hsz]
    rw [this] at h3
    exact hs.write h2 h3

/-! append -/
/-- What the program says of a slice type: its elements' type, cells, bytes and zero. -/
structure SlTy (P : Program) (t e sz bytes : Nat) (z : Value) : Prop where
  t : P.underlying t = some (.slice e)
  i : ∃ i, P.info? e = some i ∧ i.size = sz ∧ i.bytes = bytes ∧ i.zero = some z
  z : z.cells.size = sz
  pos : 0 < sz

/-- A slice of the call's own: its cells xs, its blocks hp. -/
def OwnS (e sz : Nat) (v : Value) (n : Nat) (xs : List Value) (hp : HP) : Prop :=
  xs.length = n * sz ∧ ((v = .slice none 0 0 ∧ n = 0 ∧ hp = []) ∨ ∃ g cap sp, v = .slice (some ⟨g, 0, none⟩) n cap ∧ n ≤ cap ∧ cap ≤ maxLen ∧ cap * sz ≤ (xs ++ sp).length ∧ hp = [(g, ⟨xs ++ sp, e⟩)])

theorem ownS_nil (e sz : Nat) : OwnS e sz (.slice none 0 0) 0 [] [] := ⟨by simp, .inl ⟨rfl, rfl, rfl⟩⟩

theorem OwnS.slice {e sz n : Nat} {v : Value} {xs : List Value} {hp : HP} (h : OwnS e sz v n xs hp) : ∃ a c, v = .slice a n c ∧ n ≤ c := by
  rcases h.2 with ⟨rfl, rfl, _⟩ | ⟨g, cap, sp, rfl, hn, _⟩
  · exact ⟨_, _, rfl, Nat.le_refl _⟩
  · exact ⟨_, _, rfl, hn⟩

theorem OwnS.at {w0 w : World} {M : Nat → Prop} {h hp : HP} {e sz n : Nat} {v : Value} {xs : List Value} (ho : OwnS e sz v n xs hp) (hs : St w0 M (hp ++ h) w) : ∀ a c, v = .slice a n c → ∀ ad, a = some ad → CellsAt w ad xs := by
  intro a c hv ad ha
  rcases ho.2 with ⟨rfl, rfl, _⟩ | ⟨g, cap, sp, rfl, hn, _, _, rfl⟩
  · cases hv; cases ha
  · cases hv; cases ha
    have := (hs.has _ (List.mem_cons_self ..)).cellsAt 0
    simp only [List.drop_zero] at this
    have := this.take xs.length
    simpa using this

variable {P : Program}

theorem append_own {w0 w : World} {M : Nat → Prop} {h hp : HP} {t e sz bytes ty n m : Nat} {z : Value} (T : SlTy P t e sz bytes z) {v x : Value} {xs news : List Value} (ho : OwnS e sz v n xs hp) (hs : St w0 M (hp ++ h) w)
    {xa : Option Addr} {c : Nat} (hx : x = .slice xa m c) (hxn : xa = none → m = 0) (hl : news.length = m * sz) (hnews : ∀ ad, xa = some ad → CellsAt w ad news) (h1 : ∀ u ∈ news, u.oneCell' = true)
    (h63 : n + m ≤ maxLen) (hb : (n + m) * bytes ≤ 140737488355328) {K : Value → World → Prop}
    (k : ∀ v' hp' w', OwnS e sz v' (n + m) (xs ++ news) hp' → St w0 M (hp' ++ h) w' → (v' = .slice none 0 0 ↔ v = .slice none 0 0 ∧ m = 0) → K v' w') : pE (semE P (Builtin.append_ #[t, t] ty #[v, x]) w) K := by
  subst hx
  obtain ⟨i, hi, hsz, hby, hz⟩ := T.i
  subst hsz
  subst hby
  have hsmall : n + m ≤ 9223372036854775807 := by simp only [maxLen] at h63; omega
  have fin : ∀ v' w', (Builtin.append_ #[t, t] ty #[v, .slice xa m c]).run P w = .ok v' w' → K v' w' → pE (semE P (Builtin.append_ #[t, t] ty #[v, .slice xa m c]) w) K := by
    intro v' w' hr hk
    unfold pE semE; rw [hr]; exact hk
  -- a new block
  have grown : ∀ (old : Nat) (sp : HP), (hp = sp) → n + m ≤ maxLen → ∀ v', v' = .slice (some ⟨w.heap.size, 0, none⟩) (n + m) (grownCap w (n + m) old e) → (v' = .slice none 0 0 ↔ v = .slice none 0 0 ∧ m = 0) →
      ∀ cs : Array Value, cs = xs.toArray ++ news.toArray ++ Builtin.zeroCells z.cells (grownCap w (n + m) old e - (n + m)) → K v' (w.drew.alloc (.cells cs e)) := by
    intro old sp _ hmx v' hv' hiff cs hcs
    subst hv' hcs
    have hge := grownCap_ge w (n + m) old e
    have hcm := grownCap_le_maxLen w (n + m) old e h63
    have hd := (hs.sub (List.sublist_append_right hp h)).gr (Tr.draw w)
    have ha := hd.alloc (xs ++ news ++ (Builtin.zeroCells z.cells (grownCap w (n + m) old e - (n + m))).toList) e
    refine k _ [(w.heap.size, ⟨xs ++ news ++ (Builtin.zeroCells z.cells (grownCap w (n + m) old e - (n + m))).toList, e⟩)] _ ⟨by rw [List.length_append, ho.1, hl, Nat.add_mul], .inr ⟨w.heap.size, _, (Builtin.zeroCells z.cells (grownCap w (n + m) old e - (n + m))).toList, rfl, hge, hcm, ?_, rfl⟩⟩ ?_ hiff
    · simp only [List.length_append, Array.length_toList, size_zeroCells, T.z, ho.1, hl, ← Nat.add_mul]
      exact Nat.mul_le_mul_right _ (by omega)
    · have e1 : xs.toArray ++ news.toArray ++ Builtin.zeroCells z.cells (grownCap w (n + m) old e - (n + m)) = (xs ++ news ++ (Builtin.zeroCells z.cells (grownCap w (n + m) old e - (n + m))).toList).toArray := by
        apply Array.ext'; simp
      rw [e1]
      exact ha
  rcases ho.2 with ⟨rfl, rfl, rfl⟩ | ⟨g, cap, sp, rfl, hnc, hcm, hcs, rfl⟩
  · have hxs : xs = [] := List.eq_nil_of_length_eq_zero (by simpa using ho.1)
    subst hxs
    by_cases hm : m = 0
    · subst hm
      have hn : news = [] := List.eq_nil_of_length_eq_zero (by simpa using hl)
      subst hn
      refine fin (.slice none 0 0) w ?_ (k _ [] _ (ownS_nil _ _) hs (by simp))
      cases xa with
      | none => simp [Builtin.append_, run_underlying T.t, sizeOf, typeInfo, hi, Builtin.lenOf, Builtin.firstCells]
      | some ad => simp [Builtin.append_, run_underlying T.t, sizeOf, typeInfo, hi, Builtin.lenOf, Builtin.firstCells, loadCells, loadCellsFrom]
    · cases xa with
      | none => exact absurd (hxn rfl) hm
      | some ad =>
        have hr := run_append_nil (P := P) w t ty e i z T.t hi hz ad m c news hl (hnews ad rfl) (by omega) (by omega) (by have hb := hb; simp only [Nat.zero_add] at hb; omega)
        refine fin _ _ hr (grown 0 [] rfl h63 _ (by simp) (by simp [hm]) _ (by simp))
  · cases xa with
    | none =>
      have hm := hxn rfl
      subst hm
      have hn : news = [] := List.eq_nil_of_length_eq_zero (by simpa using hl)
      subst hn
      refine fin (.slice (some ⟨g, 0, none⟩) n cap) w ?_ (k _ _ _ ⟨by simpa using ho.1, .inr ⟨g, cap, sp, rfl, hnc, hcm, by simpa using hcs, rfl⟩⟩ (by simpa using hs) (by simp))
      simp [Builtin.append_, run_underlying T.t, sizeOf, typeInfo, hi, Builtin.lenOf, Builtin.firstCells, hnc, storeCells]
    | some ad =>
      have hg := hs.has _ (List.mem_cons_self ..)
      by_cases hroom : n + m ≤ cap
      · have hfit : n * i.size + news.length ≤ (xs ++ sp).toArray.size := by rw [List.size_toArray, hl, ← Nat.add_mul]; exact Nat.le_trans (Nat.mul_le_mul_right _ hroom) hcs
        have hr := run_append_room (P := P) w t ty e i T.t hi g n cap (xs ++ sp).toArray hg ad m c news hl (hnews ad rfl) h1 hroom hfit
        have hcell : (xs ++ sp).take (n * i.size) ++ news ++ (xs ++ sp).drop (n * i.size + news.length) = xs ++ news ++ sp.drop news.length := by
          rw [← ho.1, List.take_left, ← List.drop_drop, List.drop_left]
        rw [List.toList_toArray, hcell] at hr
        refine fin _ _ hr (k _ [(g, ⟨xs ++ news ++ sp.drop news.length, e⟩)] _ ⟨by rw [List.length_append, ho.1, hl, Nat.add_mul], .inr ⟨g, cap, sp.drop news.length, rfl, hroom, hcm, ?_, rfl⟩⟩ ?_ (by simp))
        · simp only [List.length_append, List.length_drop] at hcs ⊢
          have := hfit
          simp only [List.size_toArray, List.length_append] at this
          have := ho.1
          omega
        · exact hs.write (Tr.setRow w g _) (by
            have := setRow_heap w g (xs ++ sp).toArray (xs ++ news ++ sp.drop news.length).toArray e (0, 0) hg
            exact this)
      · have holds : ∀ j u, xs[j]? = some u → w.cell? ((⟨g, 0, none⟩ : Addr).add j) = some u := by
          have := ho.at hs _ _ rfl ⟨g, 0, none⟩ rfl
          exact this
        have hr := run_append_grow (P := P) w t ty e i z T.t hi hz ⟨g, 0, none⟩ n cap xs ho.1 holds ad m c news hl (hnews ad rfl) (by omega) (by omega) (growslice_fits (by omega) hb)
        exact fin _ _ hr (grown cap _ rfl h63 _ rfl (by simp) _ rfl)
end Go.Bk
