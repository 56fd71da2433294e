/- Memory, part 7: maps from int to int. -/
import Derived.Test.YtbbjljhbiaeadaaMem6
import Derived.MapKept
set_option linter.unusedSimpArgs false
set_option linter.unusedVariables false
namespace Go.Bk
open Go.RowKit Go.MapKept
variable {P : Program}

abbrev E3 := Int × Int × Nat
def ent (e : E3) : MapEntry := ⟨.int .i64 e.1, .int .i64 e.2.1, e.2.2⟩
def pr2 (e : E3) : Int × Int := (e.1, e.2.1)
def mapBlk (l : List E3) (c : Nat) : Blk := ⟨[], .o (.map (l.map ent).toArray c)⟩
/-- A map of one's own: its entries T. -/
def OwnMap (b : Nat) (T : List (Int × Int)) (h : HP) : Prop := ∃ (l : List E3) (c : Nat), h = [(b, mapBlk l c)] ∧ l.map pr2 = T

def mget : List (Int × Int) → Int → Option Int
  | [], _ => none
  | e :: T, k => if k = e.1 then some e.2 else mget T k
def mput : List (Int × Int) → Int → Int → List (Int × Int)
  | [], k, v => [(k, v)]
  | e :: T, k, v => if k = e.1 then (k, v) :: T else e :: mput T k v
def mdel : List (Int × Int) → Int → List (Int × Int)
  | [], _ => []
  | e :: T, k => if k = e.1 then T else e :: mdel T k

def ixm (k : Int) : List E3 → Option Nat
  | [] => none
  | e :: l => if k = e.1 then some 0 else (ixm k l).map (· + 1)

theorem find_spec (k : Int) : ∀ (l : List E3) (i : Nat), Instr.findNow (.int .i64) (.int .i64 k) (l.map ent) i = some ((ixm k l).bind fun j => (l[j]?).map fun e => (i + j, Value.int .i64 e.2.1))
  | [], i => rfl
  | e :: l, i => by
    have ih := find_spec k l (i + 1)
    simp only [List.map_cons, Instr.findNow, Instr.sameNow, ent]
    by_cases h : k = e.1
    · simp [ixm, h]
    · have hb : (k == e.1) = false := by simp [h]
      simp only [if_true, hb, ixm, if_neg h]
      rw [ih]
      congr 1
      cases ixm k l with
      | none => rfl
      | some j =>
        simp only [Option.map_some, Option.bind_some, List.getElem?_cons_succ]
        cases l[j]? with
        | none => rfl
        | some x => simp; omega
theorem ixm_get (k : Int) : ∀ (l : List E3), ((ixm k l).bind fun j => (l[j]?).map fun e => e.2.1) = mget (l.map pr2) k
  | [] => rfl
  | e :: l => by
    have ih := ixm_get k l
    simp only [List.map_cons, mget, pr2, ixm]
    by_cases h : k = e.1
    · simp [h]
    · simp only [if_neg h]
      rw [← ih]
      cases ixm k l <;> simp
theorem ixm_lt (k : Int) : ∀ (l : List E3) (j : Nat), ixm k l = some j → j < l.length
  | [], j, h => by cases h
  | e :: l, j, h => by
    rw [ixm] at h
    split at h
    · cases h; simp
    · cases hi : ixm k l with
      | none => rw [hi] at h; cases h
      | some i => rw [hi] at h; cases h; have := ixm_lt k l i hi; simp; omega
theorem ixm_key (k : Int) : ∀ (l : List E3) (j : Nat) (e : E3), ixm k l = some j → l[j]? = some e → e.1 = k
  | [], j, e, h, _ => by cases h
  | x :: l, j, e, h, he => by
    rw [ixm] at h
    split at h
    · rename_i hk
      cases h; simp at he; rw [← he]; exact hk.symm
    · cases hi : ixm k l with
      | none => rw [hi] at h; cases h
      | some i => rw [hi] at h; cases h; exact ixm_key k l i e hi (by simpa using he)
theorem ixm_put (k v : Int) : ∀ (l : List E3) (j : Nat), ixm k l = some j → (l.modify j fun e => (k, v, e.2.2)).map pr2 = mput (l.map pr2) k v
  | [], j, h => by cases h
  | e :: l, j, h => by
    rw [ixm] at h
    simp only [List.map_cons, mput, pr2]
    by_cases hk : k = e.1
    · rw [if_pos hk] at h; cases h
      simp [hk, pr2]
    · rw [if_neg hk] at h
      simp only [if_neg hk]
      cases hi : ixm k l with
      | none => rw [hi] at h; cases h
      | some i =>
        rw [hi] at h; cases h
        have := ixm_put k v l i hi
        simp only [List.modify_succ_cons, List.map_cons, pr2] at this ⊢
        rw [this]
theorem ixm_push (k v : Int) (c : Nat) : ∀ (l : List E3), ixm k l = none → (l ++ [(k, v, c)]).map pr2 = mput (l.map pr2) k v
  | [], h => rfl
  | e :: l, h => by
    rw [ixm] at h
    simp only [List.cons_append, List.map_cons, mput, pr2]
    by_cases hk : k = e.1
    · rw [if_pos hk] at h; cases h
    · rw [if_neg hk] at h
      simp only [if_neg hk]
      cases hi : ixm k l with
      | none => rw [← ixm_push k v c l hi]
      | some i => rw [hi] at h; cases h
theorem ixm_del (k : Int) : ∀ (l : List E3) (j : Nat), ixm k l = some j → (l.eraseIdx j).map pr2 = mdel (l.map pr2) k
  | [], j, h => by cases h
  | e :: l, j, h => by
    rw [ixm] at h
    simp only [List.map_cons, mdel, pr2]
    by_cases hk : k = e.1
    · rw [if_pos hk] at h; cases h
      simp [hk]
    · rw [if_neg hk] at h
      simp only [if_neg hk]
      cases hi : ixm k l with
      | none => rw [hi] at h; cases h
      | some i =>
        rw [hi] at h; cases h
        have := ixm_del k l i hi
        simp only [List.eraseIdx_cons_succ, List.map_cons, pr2] at this ⊢
        rw [this]
theorem ixm_nodel (k : Int) : ∀ (l : List E3), ixm k l = none → mdel (l.map pr2) k = l.map pr2
  | [], h => rfl
  | e :: l, h => by
    rw [ixm] at h
    simp only [List.map_cons, mdel, pr2]
    by_cases hk : k = e.1
    · rw [if_pos hk] at h; cases h
    · rw [if_neg hk] at h
      simp only [if_neg hk]
      cases hi : ixm k l with
      | none => rw [ixm_nodel k l hi]
      | some i => rw [hi] at h; cases h

/-- What the program says of a map type from int to int. -/
structure MpTy (P : Program) (mt kt vt : TypeId) : Prop where
  t : P.underlying mt = some (.map kt vt)
  k : P.underlying kt = some (.int .i64)
  z : ∃ i, P.info? vt = some i ∧ i.zero = some (.int .i64 0)

theorem Has.map {w : World} {b : Nat} {l : List E3} {c : Nat} (h : Has w b (mapBlk l c)) : w.heap[b]? = some (.map (l.map ent).toArray c) := h.2.1
theorem has_map {w : World} {b : Nat} {l : List E3} {c : Nat} (h : w.heap[b]? = some (.map (l.map ent).toArray c)) : Has w b (mapBlk l c) := ⟨rfl, h, fun _ _ _ e => by cases e⟩

theorem look_program {w : World} : look P w program = some P := rfl
theorem look_pure {α : Type} {w : World} (a : α) : look P w (pure a : Sem α) = some a := rfl
theorem look_underlying {w : World} {t : TypeId} {d : TypeDesc} (h : P.underlying t = some d) : look P w (underlying t) = some d := by
  simp only [underlying, look_bind, look_program, Option.bind_some, h, look_pure]
theorem look_zero {w : World} {t : TypeId} {i : TypeInfo} {v : Value} (h : P.info? t = some i) (hz : i.zero = some v) : look P w (zeroValue t) = some v := by
  simp only [zeroValue, typeInfo, look_bind, look_program, Option.bind_some, h, look_pure, hz]
theorem look_getObj {w : World} {r : Nat} {es : Array MapEntry} {c : Nat} (h : w.heap[r]? = some (.map es c)) : look P w (getObj r) = some (.map es c) := by
  simp [getObj, look, h]
theorem look_checkKey {w : World} {kt : TypeId} {k : Int} (h : P.underlying kt = some (.int .i64)) (e : Bool) (n : Nat) : look P w (Instr.checkKey e (n + 1) kt (.int .i64 k)) = some () := by
  unfold Instr.checkKey
  simp only [look_bind, look_underlying h, Option.bind_some]
  rfl
theorem look_findKey {w : World} {kt : TypeId} {k : Int} {l : List MapEntry} {a : Option (Nat × Value)} (h : P.underlying kt = some (.int .i64)) (hf : Instr.findNow (.int .i64) (.int .i64 k) l 0 = some a) : look P w (Instr.findKey kt (.int .i64 k) l) = some a := by
  simp only [Instr.findKey, look_bind, look_underlying h, Option.bind_some, hf, look_pure]

theorem find0 (k : Int) (l : List E3) : Instr.findNow (.int .i64) (.int .i64 k) (l.map ent) 0 = some ((ixm k l).bind fun j => (l[j]?).map fun e => (j, Value.int .i64 e.2.1)) := by
  rw [find_spec]; simp

theorem map_get {w : World} {b : Nat} {l : List E3} {c : Nat} {mt kt vt : TypeId} (T : MpTy P mt kt vt) (h : w.heap[b]? = some (.map (l.map ent).toArray c)) (k : Int) (ok : Bool) :
    look P w (Instr.lookup mt (.map (some b)) (.int .i64 k) ok) = some (if ok then .tuple #[.int .i64 ((mget (l.map pr2) k).getD 0), .bool (mget (l.map pr2) k).isSome] else .int .i64 ((mget (l.map pr2) k).getD 0)) := by
  obtain ⟨i, hi, hz⟩ := T.z
  unfold Instr.lookup
  simp only [look_bind, look_underlying T.t, Option.bind_some, look_getObj h, look_pure, look_checkKey T.k]
  rw [look_findKey T.k (find0 k l)]
  rw [← ixm_get]
  cases hx : ixm k l with
  | none =>
    simp only [Option.bind_some, Option.bind_none, look_bind, look_zero hi hz, look_pure, Option.isSome_none, Option.getD_none]
  | some j =>
    have hj := ixm_lt k l j hx
    have e : l[j]? = some l[j] := List.getElem?_eq_getElem hj
    simp only [Option.bind_some, e, Option.map_some, look_bind, look_pure, Option.isSome_some, Option.getD_some]
theorem map_len {w : World} {b : Nat} {l : List E3} {c : Nat} {mt kt vt ty : TypeId} (T : MpTy P mt kt vt) (h : w.heap[b]? = some (.map (l.map ent).toArray c)) :
    look P w (Builtin.len_ #[mt] ty #[.map (some b)]) = some (.int .i64 l.length) := by
  unfold Builtin.len_
  simp only [look_bind, look_underlying T.t, Option.bind_some, look_getObj h, look_pure, List.getElem?_toArray, List.getElem?_cons_zero, List.size_toArray, List.length_map, goInt]

theorem Tr.setObj (w : World) (b : Nat) (o : Obj) : Tr w (fun i => i = b) { w with heap := w.heap.setIfInBounds b o } :=
  ⟨rfl, rfl, rfl, by simp, fun i _ hi => by simp [Ne.symm hi]⟩

theorem OwnMap.has {w0 w : World} {M : Nat → Prop} {b : Nat} {T : List (Int × Int)} {h r : HP} (ho : OwnMap b T h) (hs : St w0 M (h ++ r) w) : ∃ (l : List E3) (c : Nat), w.heap[b]? = some (.map (l.map ent).toArray c) ∧ l.map pr2 = T := by
  obtain ⟨l, c, rfl, hT⟩ := ho
  exact ⟨l, c, (hs.has (b, mapBlk l c) (by simp)).map, hT⟩
theorem mget_spec {w0 w : World} {M : Nat → Prop} {b : Nat} {T : List (Int × Int)} {h r : HP} {mt kt vt : TypeId} (Y : MpTy P mt kt vt) (ho : OwnMap b T h) (hs : St w0 M (h ++ r) w) (k : Int) :
    look P w (Instr.lookup mt (.map (some b)) (.int .i64 k) true) = some (.tuple #[.int .i64 ((mget T k).getD 0), .bool (mget T k).isSome]) ∧ look P w (Instr.lookup mt (.map (some b)) (.int .i64 k) false) = some (.int .i64 ((mget T k).getD 0)) := by
  obtain ⟨l, c, hb, rfl⟩ := ho.has hs
  exact ⟨map_get Y hb k true, map_get Y hb k false⟩
theorem mlen_spec {w0 w : World} {M : Nat → Prop} {b : Nat} {T : List (Int × Int)} {h r : HP} {mt kt vt ty : TypeId} (Y : MpTy P mt kt vt) (ho : OwnMap b T h) (hs : St w0 M (h ++ r) w) :
    look P w (Builtin.len_ #[mt] ty #[.map (some b)]) = some (.int .i64 T.length) := by
  obtain ⟨l, c, hb, rfl⟩ := ho.has hs
  rw [map_len Y hb, List.length_map]

/-- What is laid into a map's block anew. -/
theorem St.remap {w0 w : World} {M : Nat → Prop} {b : Nat} {l l' : List E3} {c c' : Nat} {r : HP} (hs : St w0 M ((b, mapBlk l c) :: r) w) : St w0 M ((b, mapBlk l' c') :: r) { w with heap := w.heap.setIfInBounds b (.map (l'.map ent).toArray c') } := by
  have hb : w.heap[b]? = some (.map (l.map ent).toArray c) := (hs.has (b, mapBlk l c) (List.mem_cons_self ..)).map
  exact hs.write (Tr.setObj w b _) (has_map (heap_set hb).1)

theorem mput_spec {w0 w : World} {M : Nat → Prop} {b : Nat} {T : List (Int × Int)} {h r : HP} {mt kt vt : TypeId} (Y : MpTy P mt kt vt) (ho : OwnMap b T h) (hs : St w0 M (h ++ r) w) (k v : Int) {K : World → Prop}
    (kk : ∀ h' w', OwnMap b (mput T k v) h' → St w0 M (h' ++ r) w' → K w') : pU (semU P (Instr.mapUpdate mt (.map (some b)) (.int .i64 k) (.int .i64 v)) w) K := by
  obtain ⟨l, c, rfl, rfl⟩ := ho
  have hb : w.heap[b]? = some (.map (l.map ent).toArray c) := (hs.has (b, mapBlk l c) (List.mem_cons_self ..)).map
  have hdesc : Instr.findNow (.int .i64) (.int .i64 k) (l.map ent) 0 = _ := find0 k l
  unfold pU semU
  have hr : ∃ (l' : List E3) (c' : Nat), (Instr.mapUpdate mt (.map (some b)) (.int .i64 k) (.int .i64 v)).run P w = .ok () { w with heap := w.heap.setIfInBounds b (.map (l'.map ent).toArray c') } ∧ l'.map pr2 = mput (l.map pr2) k v := by
    unfold Instr.mapUpdate
    simp only [Sem.run_bind, run_underlying Y.t, Result.andThen, MapKept.run_getObj_map hb, run_checkKey Y.k (show IsKey (.int .i64) (.int .i64 k) from rfl)]
    rw [run_findKey Y.k hdesc]
    cases hx : ixm k l with
    | none =>
      refine ⟨l ++ [(k, v, c)], c + 1, ?_, ixm_push k v c l hx⟩
      simp only [Option.bind_none]
      rw [run_setObj_map _ hb]
      simp [ent]
    | some j =>
      have hj := ixm_lt k l j hx
      have hk := ixm_key k l j _ hx (List.getElem?_eq_getElem hj)
      refine ⟨l.modify j fun e => (k, v, e.2.2), c, ?_, ixm_put k v l j hx⟩
      have e : l[j]? = some l[j] := List.getElem?_eq_getElem hj
      simp only [Option.bind_some, e, Option.map_some]
      have hkey : ((((l.map ent).toArray)[j]?).map (·.key)).getD (.int .i64 k) = .int .i64 k := by
        simp [hj, ent, hk]
      rw [hkey]
      have hstay : (Instr.keyThatStays (.int .i64 k) (.int .i64 k)).run P w = .ok (.int .i64 k) w := by
        unfold Instr.keyThatStays
        have : Instr.sameBits 10000 (.int .i64 k) (.int .i64 k) = true := by simp [Instr.sameBits]
        rw [this]; rfl
      simp only [Sem.run_bind, hstay, Result.andThen]
      rw [run_setObj_map _ hb]
      have : ((l.map ent).toArray.modify j fun e => { e with key := .int .i64 k, val := .int .i64 v }) = ((l.modify j fun e => (k, v, e.2.2)).map ent).toArray := by
        apply Array.ext'
        rw [Array.toList_modify]
        simp only [List.toList_toArray]
        apply List.ext_getElem?
        intro i
        simp only [List.getElem?_modify, List.getElem?_map]
        by_cases hij : j = i
        · subst hij
          simp [hj, ent]
        · simp [hij]
      rw [this]
  obtain ⟨l', c', hr, he⟩ := hr
  rw [hr]
  exact kk _ _ ⟨l', c', rfl, he⟩ hs.remap
theorem mdel_spec {w0 w : World} {M : Nat → Prop} {b : Nat} {T : List (Int × Int)} {h r : HP} {mt kt vt ty : TypeId} (Y : MpTy P mt kt vt) (ho : OwnMap b T h) (hs : St w0 M (h ++ r) w) (k : Int) {K : Value → World → Prop}
    (kk : ∀ h' w', OwnMap b (mdel T k) h' → St w0 M (h' ++ r) w' → K (.tuple #[]) w') : pE (semE P (Builtin.delete_ #[mt, kt] ty #[.map (some b), .int .i64 k]) w) K := by
  obtain ⟨l, c, rfl, rfl⟩ := ho
  have hb : w.heap[b]? = some (.map (l.map ent).toArray c) := (hs.has (b, mapBlk l c) (List.mem_cons_self ..)).map
  have hdesc : Instr.findNow (.int .i64) (.int .i64 k) (l.map ent) 0 = _ := find0 k l
  unfold pE semE
  have hr : ∃ (l' : List E3) (c' : Nat), (Builtin.delete_ #[mt, kt] ty #[.map (some b), .int .i64 k]).run P w = .ok (.tuple #[]) { w with heap := w.heap.setIfInBounds b (.map (l'.map ent).toArray c') } ∧ l'.map pr2 = mdel (l.map pr2) k := by
    unfold Builtin.delete_
    simp only [List.getElem?_toArray, List.getElem?_cons_zero, List.getElem?_cons_succ, Sem.run_bind, run_underlying Y.t, Result.andThen, MapKept.run_getObj_map hb, run_checkKey Y.k (show IsKey (.int .i64) (.int .i64 k) from rfl)]
    rw [run_findKey Y.k hdesc]
    cases hx : ixm k l with
    | none =>
      refine ⟨l, c, ?_, (ixm_nodel k l hx).symm⟩
      simp only [Option.bind_none, Sem.run_bind, run_setObj_map _ hb, Result.andThen]
      rfl
    | some j =>
      have hj := ixm_lt k l j hx
      refine ⟨l.eraseIdx j, c, ?_, ixm_del k l j hx⟩
      have e : l[j]? = some l[j] := List.getElem?_eq_getElem hj
      simp only [Option.bind_some, e, Option.map_some]
      simp only [Sem.run_bind, run_setObj_map _ hb, Result.andThen]
      have : (l.map ent).toArray.eraseIdxIfInBounds j = ((l.eraseIdx j).map ent).toArray := by
        rw [List.eraseIdxIfInBounds_toArray]
        congr 1
        apply List.ext_getElem?
        intro i
        simp only [List.getElem?_eraseIdx, List.getElem?_map]
        split <;> rfl
      rw [this]
      rfl
  obtain ⟨l', c', hr, he⟩ := hr
  rw [hr]
  exact kk _ _ ⟨l', c', rfl, he⟩ hs.remap
theorem mnew_spec {w0 w : World} {M : Nat → Prop} {r : HP} (hs : St w0 M r w) {K : Value → World → Prop}
    (kk : ∀ b h w', OwnMap b [] h → St w0 M (h ++ r) w' → w.heap.size ≤ b → K (.map (some b)) w') : pE (mapE w) K := by
  refine kk w.heap.size [(w.heap.size, mapBlk [] 0)] _ ⟨[], 0, rfl, rfl⟩ ?_ (Nat.le_refl _)
  exact hs.allocK _ _ (has_map (heap_alloc w _).1)
end Go.Bk
