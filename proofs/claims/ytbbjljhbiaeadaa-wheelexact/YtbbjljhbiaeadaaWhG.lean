/- wheel: sorted lists of timers; Sort; Advance. -/
import Derived.Test.YtbbjljhbiaeadaaWhF
import Derived.Sort.Row
import Derived.Sort.Grow
set_option linter.unusedSimpArgs false
set_option linter.unusedVariables false
set_option maxRecDepth 100000
namespace Go.Proofs.Ytbbjljhbiaeadaa
open Go.Bk Go.RowKit Go.Sort

/-! timers by tick, then by number -/
def lt2 (a b : Int × Int) : Prop := a.1 < b.1 ∨ (a.1 = b.1 ∧ a.2 < b.2)
theorem lt2.trans {a b c : Int × Int} (h : lt2 a b) (k : lt2 b c) : lt2 a c := by unfold lt2 at *; omega
theorem lt2.irr {a : Int × Int} (h : lt2 a a) : False := by unfold lt2 at h; omega
theorem lt2.asym {a b : Int × Int} (h : lt2 a b) (k : lt2 b a) : False := (h.trans k).irr
theorem sorted_eq : ∀ {L L' : List (Int × Int)}, L.Pairwise lt2 → L'.Pairwise lt2 → (∀ x, x ∈ L ↔ x ∈ L') → L = L'
  | [], [], _, _, _ => rfl
  | [], b :: L', _, _, h => by have := (h b).2 (List.mem_cons_self ..); cases this
  | a :: L, [], _, _, h => by have := (h a).1 (List.mem_cons_self ..); cases this
  | a :: L, b :: L', h1, h2, h => by
    rw [List.pairwise_cons] at h1 h2
    have hab : a = b := by
      rcases List.mem_cons.1 ((h a).1 (List.mem_cons_self ..)) with e | ha
      · exact e
      · rcases List.mem_cons.1 ((h b).2 (List.mem_cons_self ..)) with e | hb
        · exact e.symm
        · exact absurd (h1.1 b hb) (fun hx => hx.asym (h2.1 a ha))
    subst hab
    congr 1
    refine sorted_eq h1.2 h2.2 (fun x => ?_)
    constructor
    · intro hx
      rcases List.mem_cons.1 ((h x).1 (List.mem_cons_of_mem _ hx)) with e | hx'
      · subst e; exact absurd (h1.1 x hx) (fun hx => hx.irr)
      · exact hx'
    · intro hx
      rcases List.mem_cons.1 ((h x).2 (List.mem_cons_of_mem _ hx)) with e | hx'
      · subst e; exact absurd (h2.1 x hx) (fun hx => hx.irr)
      · exact hx'
def upTo (t : Int) (L : List (Int × Int)) : List (Int × Int) := L.filter fun e => decide (e.1 ≤ t)
def above (t : Int) (L : List (Int × Int)) : List (Int × Int) := L.filter fun e => decide (t < e.1)
theorem split_sorted (t : Int) : ∀ {L : List (Int × Int)}, L.Pairwise lt2 → L = upTo t L ++ above t L
  | [], _ => rfl
  | a :: L, h => by
    rw [List.pairwise_cons] at h
    unfold upTo above
    by_cases ha : a.1 ≤ t
    · rw [List.filter_cons_of_pos (by simpa using ha), List.filter_cons_of_neg (by simpa using ha), List.cons_append]
      congr 1
      exact split_sorted t h.2
    · have hall : ∀ e ∈ L, t < e.1 := fun e he => by have := h.1 e he; unfold lt2 at this; omega
      rw [List.filter_cons_of_neg (by simpa using ha), List.filter_cons_of_pos (by simp; omega)]
      rw [List.filter_eq_nil_iff.2 (fun e he => by have := hall e he; simp; omega), List.nil_append]
      congr 1
      symm
      rw [List.filter_eq_self]
      intro e he; simpa using hall e he
def swp (e : Int × Int) : Int × Int := (e.2, e.1)
structure Abs (T L : List (Int × Int)) : Prop where
  perm : L.Perm (T.map swp)
  srt : L.Pairwise lt2
theorem Abs.mem {T L : List (Int × Int)} (h : Abs T L) (hn : (mkeys T).Nodup) {t id : Int} : (t, id) ∈ L ↔ mget T id = some t := by
  rw [h.perm.mem_iff]
  constructor
  · intro hm
    obtain ⟨e, he, hx⟩ := List.mem_map.1 hm
    unfold swp at hx
    simp only [Prod.mk.injEq] at hx
    exact mget_of_mem hn (by rw [← hx.1, ← hx.2]; exact he)
  · intro hg
    exact List.mem_map.2 ⟨(id, t), mget_mem hg, rfl⟩
theorem Abs.len {T L : List (Int × Int)} (h : Abs T L) : L.length = T.length := by rw [h.perm.length_eq, List.length_map]
theorem Abs.nil {L : List (Int × Int)} (h : Abs [] L) : L = [] := List.Perm.eq_nil h.perm
theorem abs_nil : Abs [] [] := ⟨List.Perm.refl _, List.Pairwise.nil⟩

/-! the sort -/
def SortOK : Prop := ∀ (blk off cap : Nat) (zs : List Int) (w : World), Holds (Value.int .i64) w blk off zs.toArray → blk < w.heap.size → zs.length < 4611686018427387904 →
    Calls Try.prog 25 #[.slice (some ⟨blk, off, none⟩) zs.length cap] w fun e w' =>
      e = .returned (.tuple #[]) ∧ ∃ n os, w' = grow (putRow (Value.int .i64) (Sort.ahead w n) blk off (zs.mergeSort fun x y => decide (x ≤ y)).toArray) os
def srtd (l : List Int) : List Int := l.mergeSort fun x y => decide (x ≤ y)
theorem srtd_perm (l : List Int) : (srtd l).Perm l := List.mergeSort_perm ..
theorem srtd_len (l : List Int) : (srtd l).length = l.length := (srtd_perm l).length_eq
theorem srtd_sorted (l : List Int) : (srtd l).Pairwise (fun x y => x ≤ y) := by
  have := List.pairwise_mergeSort (le := fun x y : Int => decide (x ≤ y)) (fun a b c => by simp only [decide_eq_true_eq]; omega) (fun a b => by simp only [Bool.or_eq_true, decide_eq_true_eq]; omega) l
  exact this.imp (fun h => by simpa using h)

theorem sorted_world {w : World} {g n : Nat} {xs ys : List Int} {sp : List Value} {t : TypeId} {os : Array Obj} (h : Has w g ⟨ints xs ++ sp, t⟩) (hl : ys.length = xs.length) :
    Tr w (fun i => i = g) (grow (putRow (Value.int .i64) (Sort.ahead w n) g 0 ys.toArray) os) ∧ Has (grow (putRow (Value.int .i64) (Sort.ahead w n) g 0 ys.toArray) os) g ⟨ints ys ++ sp, t⟩ := by
  have hh : w.heap[g]? = some (.cells (ints xs ++ sp).toArray t (0, 0)) := h
  have hg : g < w.heap.size := h.lt
  have hheap : (grow (putRow (Value.int .i64) (Sort.ahead w n) g 0 ys.toArray) os).heap = w.heap.modify g (onCells (putCells (Value.int .i64) 0 ys.toArray)) ++ os := rfl
  refine ⟨⟨rfl, rfl, rfl, ?_, fun i hi hne => ?_⟩, ?_⟩
  · rw [hheap]; simp
  · rw [hheap, Array.getElem?_append_left (by simpa using hi), Array.getElem?_modify, if_neg (fun e => hne e.symm)]
  · show (grow (putRow (Value.int .i64) (Sort.ahead w n) g 0 ys.toArray) os).heap[g]? = some (.cells (ints ys ++ sp).toArray t (0, 0))
    rw [hheap, Array.getElem?_append_left (by simpa using hg), Array.getElem?_modify, if_pos rfl, hh]
    simp only [Option.map_some, onCells]
    congr 2
    apply Array.ext
    · simp [putCells, ints, hl]
    · intro i h1 h2
      simp only [putCells, Array.getElem_mapIdx, List.getElem_toArray]
      by_cases hi : i < ys.length
      · rw [if_pos ⟨Nat.zero_le _, by simpa using hi⟩]
        rw [List.getElem_append_left (by rw [ints_len]; exact hi)]
        simp [ints, I, hi]
      · rw [if_neg (by simp; omega)]
        rw [List.getElem_append_right (by rw [ints_len]; omega), List.getElem_append_right (by rw [ints_len]; omega)]
        simp [ints_len, hl]

theorem sort_spec (so : SortOK) {w0 w : World} {M : Nat → Prop} {r hp : HP} {v : Value} {xs : List Int} (ho : OwnI v xs hp) (hs : St w0 M (hp ++ r) w) (hne : xs ≠ []) (hb : xs.length ≤ 65536) {K : Value → World → Prop}
    (k : ∀ hp' w', OwnI v (srtd xs) hp' → St w0 M (hp' ++ r) w' → K (.tuple #[]) w') : pCall Try.prog 25 [v] w K := by
  have hlen := srtd_len xs
  rcases ho.2 with ⟨_, h0, _⟩ | ⟨g, cap, sp, rfl, hn, hc, hcs, rfl⟩
  · exact absurd (List.eq_nil_of_length_eq_zero h0) hne
  have hB : Has w g ⟨ints xs ++ sp, (.t 3)⟩ := hs.has _ (List.mem_cons_self ..)
  refine pCall_of (fn := Try.f25) (c := Try.f25.body.getD .skip) Try.func25 (by kernel_rfl) (by kernel_rfl) ?_
  have hH : Holds (Value.int .i64) w g 0 xs.toArray := by
    intro j hj
    have hj : j < xs.length := by simpa using hj
    refine ⟨?_, hB.frozen _⟩
    rw [hB.cell, Nat.zero_add, List.getElem?_append_left (by rw [ints_len]; exact hj), ints_at (List.getElem?_eq_getElem hj)]
    simp [hj]
  refine (so g 0 cap xs w hH hB.lt (by omega)).mono ?_
  rintro e w' ⟨rfl, n, os, rfl⟩
  obtain ⟨h1, h2⟩ := sorted_world (n := n) (os := os) hB hlen
  refine ⟨_, rfl, k [(g, ⟨ints (srtd xs) ++ sp, (.t 3)⟩)] _ ⟨by simp [ints], .inr ⟨g, cap, sp, by rw [hlen], by rw [hlen]; exact hn, hc, ?_, rfl⟩⟩ (hs.write h1 h2)⟩
  refine Nat.le_trans hcs (Nat.le_of_eq ?_); simp [ints, hlen]

/-! firings -/
theorem ty_fir : SlTy Try.prog 22 34 2 16 (.agg #[.int .i64 0, .int .i64 0]) := ⟨by kernel_rfl, ⟨_, rfl, by kernel_rfl, by kernel_rfl, by kernel_rfl⟩, rfl, by omega⟩
def frow (e : Int × Int) : List Value := [.int .i64 e.1, .int .i64 e.2]
def frows (l : List (Int × Int)) : List Value := (l.map frow).flatten
abbrev frV (e : Int × Int) : Value := .agg #[.int .i64 e.1, .int .i64 e.2]
theorem frows_len (l : List (Int × Int)) : (frows l).length = l.length * 2 := flat_len frow 2 (fun _ => rfl) l
theorem frows_append (l r : List (Int × Int)) : frows (l ++ r) = frows l ++ frows r := by simp [frows]
theorem frows_one (l : List (Int × Int)) : ∀ u ∈ frows l, u.oneCell' = true := by
  intro u hu
  simp only [frows, List.mem_flatten, List.mem_map] at hu
  obtain ⟨_, ⟨e, _, rfl⟩, hu⟩ := hu
  simp only [frow, List.mem_cons, List.not_mem_nil, or_false] at hu
  rcases hu with rfl | rfl <;> rfl
abbrev OwnF (v : Value) (l : List (Int × Int)) (h : HP) : Prop := OwnS 34 2 v l.length (frows l) h
abbrev RdF (w : World) (v : Value) (l : List (Int × Int)) : Prop := RdC w 2 v l.length (frows l)
theorem RdC.fat {w : World} {v : Value} {l : List (Int × Int)} (h : RdF w v l) {i : Nat} {e : Int × Int} (he : l[i]? = some e) {x : Int} (hx : x = i) : ∃ ad, idxV 2 v (.int .i64 x) = some (.pointer (some ad)) ∧ CellsAt w ad (frow e) := by
  obtain ⟨ad, h1, h2⟩ := h.idx (List.getElem?_eq_some_iff.1 he).1 hx
  exact ⟨ad, h1, by rw [frows, flat_slot frow 2 (fun _ => rfl) l i e he] at h2; exact h2⟩
theorem fr_ld {w : World} {ad : Addr} {e : Int × Int} (h : CellsAt w ad (frow e)) : ldV true 2 w (.pointer (some ad)) = some (frV e) := ldN h rfl
theorem app_frs {w0 w : World} {M : Nat → Prop} {h hp : HP} {v x : Value} {xs l : List (Int × Int)} {ty : TypeId} (ho : OwnF v xs hp) (hs : St w0 M (hp ++ h) w) (hv : RdF w x l) (hb : xs.length + l.length ≤ 4398046511104) {K : Value → World → Prop}
    (k : ∀ v' hp' w', OwnF v' (xs ++ l) hp' → St w0 M (hp' ++ h) w' → K v' w') : pE (semE Try.prog (Builtin.append_ #[22, 22] ty #[v, x]) w) K := by
  obtain ⟨hl, a, c, rfl, hc, h0, hcell⟩ := hv
  refine append_own ty_fir ho hs (xa := a) (m := l.length) (news := frows l) rfl h0 hl hcell (frows_one l) (by simp [maxLen]; omega) (by omega) (fun v' hp' w' ho' hs' _ => ?_)
  rw [← frows_append, ← List.length_append] at ho'
  exact k v' hp' w' ho' hs'
theorem app_fr {w0 w : World} {M : Nat → Prop} {h hp : HP} {v : Value} {xs : List (Int × Int)} {e : Int × Int} {ty : TypeId} (ho : OwnF v xs hp) (hs : St w0 M (hp ++ h) w) (hb : xs.length ≤ 4398046511100) {K : Value → World → Prop}
    (k : ∀ v' hp' w', OwnF v' (xs ++ [e]) hp' → St w0 M (hp' ++ h) w' → K v' w') : pE (mkE 34 2 [frV e] w) fun x w => pE (semE Try.prog (Builtin.append_ #[22, 22] ty #[v, x]) w) K := by
  refine pE_mkc hs (frow e) rfl (by simp [Value.cells]) (fun b w1 hs1 ht1 _ => ?_)
  have hB := hs1.top
  refine app_frs (l := [e]) (h := (b, ⟨frow e, (.t 34)⟩) :: h) ho (hs1.re (fun _ => by simp only [cnt_nil, cnt_cons, cnt_append]; omega)) ⟨rfl, _, _, rfl, Nat.le_refl _, by simp, fun ad h => ?_⟩ (by simp; omega) (fun v' hp' w' ho' hs' => k v' hp' w' ho' (hs'.re (fun _ => by simp only [cnt_nil, cnt_cons, cnt_append]; omega)))
  cases h
  exact hB.cellsAt 0

/-! Advance -/
def WheelAt (p now : Nat) (L : List (Int × Int)) (hp : HP) : Prop := ∃ T, WInv p now T hp ∧ Abs T L

def tdel (T : List (Int × Int)) (ids : List Int) : List (Int × Int) := ids.foldl mdel T
theorem tdel_filter : ∀ (ids : List Int) {T : List (Int × Int)}, (mkeys T).Nodup → tdel T ids = T.filter (fun e => decide (e.1 ∉ ids))
  | [], T, _ => by
    unfold tdel
    rw [List.foldl_nil]
    symm
    rw [List.filter_eq_self]
    intro e _; simp
  | id :: ids, T, hn => by
    have := tdel_filter ids (mkeys_del hn id)
    unfold tdel at this ⊢
    rw [List.foldl_cons, this, mdel_filter hn, List.filter_filter]
    apply List.filter_congr
    intro e _
    simp only [List.mem_cons, not_or, Bool.decide_and]
    rw [Bool.and_comm]
theorem tdel_nd {T : List (Int × Int)} (hn : (mkeys T).Nodup) (ids : List Int) : (mkeys (tdel T ids)).Nodup := by
  rw [tdel_filter ids hn]
  exact (List.filter_sublist.map _).nodup hn
theorem tdel_get {T : List (Int × Int)} (hn : (mkeys T).Nodup) (ids : List Int) (x : Int) : mget (tdel T ids) x = if x ∈ ids then none else mget T x := by
  induction ids generalizing T with
  | nil => simp [tdel]
  | cons id ids ih =>
    have := ih (mkeys_del hn id)
    unfold tdel at this ⊢
    rw [List.foldl_cons, this, mget_del hn]
    by_cases h1 : x ∈ ids
    · simp [h1]
    · by_cases h2 : x = id <;> simp [h1, h2]
theorem Ok.tdel {now : Nat} {T : List (Int × Int)} (h : Ok now T) (ids : List Int) : Ok now (tdel T ids) := by
  refine ⟨tdel_nd h.nd ids, fun i t hi => ?_, fun i t hi => ?_, h.n⟩
  · rw [tdel_get h.nd] at hi; split at hi
    · cases hi
    · exact h.id i t hi
  · rw [tdel_get h.nd] at hi; split at hi
    · cases hi
    · exact h.t i t hi

theorem slot_self (t : Nat) : lev t t = 0 := lev_eq ⟨rfl, .inl rfl⟩
theorem slot_now {t u : Nat} (h : slot t u = slot t t) : u = t := by
  have e : slot t t = 0 * 64 + dig t 0 := by unfold slot; rw [slot_self]
  rw [e] at h
  obtain ⟨h1, h2⟩ := slot_eq (dig_lt t 0) h
  have hl := (lev_is t u).1
  rw [h1] at hl
  have h3 := div_split u 0
  have h4 := div_split t 0
  simp only [Nat.pow_zero, Nat.div_one] at h3 h4
  rw [h3, h4, hl, h2]
end Go.Proofs.Ytbbjljhbiaeadaa
