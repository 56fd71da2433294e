/- wheel: where timers lie; the plain law of moving. -/
import Derived.Test.YtbbjljhbiaeadaaWhB
set_option linter.unusedSimpArgs false
set_option linter.unusedVariables false
set_option maxRecDepth 100000
namespace Go.Proofs.Ytbbjljhbiaeadaa
open Go.Bk Go.RowKit

theorem mget_put (T : List (Int × Int)) (k v k' : Int) : mget (mput T k v) k' = if k' = k then some v else mget T k' := by
  induction T with
  | nil => simp only [mput, mget]
  | cons e T ih =>
    simp only [mput]
    by_cases h : k = e.1
    · rw [if_pos h]
      simp only [mget]
      by_cases h' : k' = k
      · simp [h']
      · simp [h', ← h]
    · rw [if_neg h]
      simp only [mget, ih]
      by_cases h' : k' = e.1
      · have : ¬ k' = k := fun he => h (he.symm.trans h')
        simp [h', this]
        intro he; exact absurd he.symm h
      · simp [h']
theorem mput_same {T : List (Int × Int)} {k v : Int} (h : mget T k = some v) : mput T k v = T := by
  induction T with
  | nil => cases h
  | cons e T ih =>
    simp only [mget] at h
    simp only [mput]
    by_cases hk : k = e.1
    · rw [if_pos hk] at h ⊢
      cases h
      rw [hk]
    · rw [if_neg hk] at h ⊢
      rw [ih h]
def mkeys (T : List (Int × Int)) : List Int := T.map (·.1)
theorem mget_mem {T : List (Int × Int)} {k v : Int} (h : mget T k = some v) : (k, v) ∈ T := by
  induction T with
  | nil => cases h
  | cons e T ih =>
    simp only [mget] at h
    by_cases hk : k = e.1
    · rw [if_pos hk] at h
      cases h
      rw [hk]; exact List.mem_cons_self ..
    · rw [if_neg hk] at h
      exact List.mem_cons_of_mem _ (ih h)
theorem mget_of_mem {T : List (Int × Int)} (hn : (mkeys T).Nodup) {k v : Int} (h : (k, v) ∈ T) : mget T k = some v := by
  induction T with
  | nil => cases h
  | cons e T ih =>
    simp only [mkeys, List.map_cons, List.nodup_cons] at hn
    simp only [mget]
    rcases List.mem_cons.1 h with rfl | h
    · simp
    · have : k ≠ e.1 := fun he => hn.1 (he ▸ List.mem_map.2 ⟨(k, v), h, rfl⟩)
      rw [if_neg this]
      exact ih hn.2 h
theorem mget_none {T : List (Int × Int)} {k : Int} : mget T k = none ↔ k ∉ mkeys T := by
  induction T with
  | nil => simp [mget, mkeys]
  | cons e T ih =>
    simp only [mget, mkeys, List.map_cons, List.mem_cons] at ih ⊢
    by_cases hk : k = e.1
    · simp [hk]
    · simp [hk, ih]
theorem mkeys_put_new {T : List (Int × Int)} {k v : Int} (h : mget T k = none) : mput T k v = T ++ [(k, v)] := by
  induction T with
  | nil => rfl
  | cons e T ih =>
    simp only [mget] at h
    by_cases hk : k = e.1
    · rw [if_pos hk] at h; cases h
    · rw [if_neg hk] at h
      simp only [mput, if_neg hk, ih h, List.cons_append]
theorem mdel_sub (T : List (Int × Int)) (k : Int) : (mdel T k).Sublist T := by
  induction T with
  | nil => exact List.Sublist.refl _
  | cons e T ih =>
    simp only [mdel]
    by_cases hk : k = e.1
    · rw [if_pos hk]; exact List.sublist_cons_self ..
    · rw [if_neg hk]; exact ih.cons_cons e
theorem mdel_filter {T : List (Int × Int)} (hn : (mkeys T).Nodup) (k : Int) : mdel T k = T.filter (fun e => decide (e.1 ≠ k)) := by
  induction T with
  | nil => rfl
  | cons e T ih =>
    simp only [mkeys, List.map_cons, List.nodup_cons] at hn
    simp only [mdel]
    by_cases hk : k = e.1
    · rw [if_pos hk, List.filter_cons_of_neg (by simp [hk])]
      symm
      rw [List.filter_eq_self]
      intro x hx
      have : x.1 ≠ k := fun he => hn.1 (by rw [← hk, ← he]; exact List.mem_map.2 ⟨x, hx, rfl⟩)
      simpa using this
    · rw [if_neg hk, List.filter_cons_of_pos (by simpa using fun h => hk h.symm), ih hn.2]
theorem mget_del {T : List (Int × Int)} (hn : (mkeys T).Nodup) (k k' : Int) : mget (mdel T k) k' = if k' = k then none else mget T k' := by
  induction T with
  | nil => simp [mdel, mget]
  | cons e T ih =>
    have hn' := hn
    simp only [mkeys, List.map_cons, List.nodup_cons] at hn'
    simp only [mdel]
    by_cases hk : k = e.1
    · rw [if_pos hk]
      simp only [mget]
      by_cases h' : k' = k
      · rw [if_pos h', h', hk]
        exact mget_none.2 hn'.1
      · rw [if_neg h', if_neg (fun he => h' (he.trans hk.symm))]
    · rw [if_neg hk]
      simp only [mget, ih hn'.2]
      by_cases h' : k' = e.1
      · have : ¬ k' = k := fun he => hk (he.symm.trans h')
        simp [h', Ne.symm hk]
      · simp [h']
theorem mkeys_del {T : List (Int × Int)} (hn : (mkeys T).Nodup) (k : Int) : (mkeys (mdel T k)).Nodup := ((mdel_sub T k).map _).nodup hn

theorem nodup_len : ∀ (l r : List Nat), l.Nodup → (∀ x ∈ l, x ∈ r) → l.length ≤ r.length
  | [], r, _, _ => by simp
  | x :: l, r, h, hs => by
    rw [List.nodup_cons] at h
    have hx := hs x (List.mem_cons_self ..)
    have := nodup_len l (r.erase x) h.2 (fun y hy => by
      have hne : y ≠ x := fun e => h.1 (e ▸ hy)
      exact (List.mem_erase_of_ne hne).2 (hs y (List.mem_cons_of_mem _ hy)))
    rw [List.length_erase_of_mem hx] at this
    have : 0 < r.length := List.length_pos_of_mem hx
    simp only [List.length_cons]; omega
theorem ids_len {l : List Int} (h : l.Nodup) (hb : ∀ x ∈ l, 0 ≤ x ∧ x ≤ 65535) : l.length ≤ 65536 := by
  have h1 : (l.map Int.toNat).Nodup := by
    unfold List.Nodup at h ⊢
    rw [List.pairwise_map]
    refine h.imp_of_mem (fun {a b} ha hb' hne he => hne ?_)
    have := hb a ha
    have := hb b hb'
    omega
  have := nodup_len (l.map Int.toNat) (List.range 65536) h1 (fun x hx => by
    obtain ⟨y, hy, rfl⟩ := List.mem_map.1 hx
    have := hb y hy
    exact List.mem_range.2 (by omega))
  simpa using this

/-- Each one lies where pos tells, once, and nothing else lies there. -/
def Pl (R : List (List Int)) (pos : Int → Option Nat) : Prop := R.length = 448 ∧ ∀ j l, R[j]? = some l → l.Nodup ∧ ∀ id, id ∈ l ↔ pos id = some j
theorem Pl.congr {R : List (List Int)} {pos pos' : Int → Option Nat} (h : Pl R pos) (he : ∀ id, pos' id = pos id) : Pl R pos' :=
  ⟨h.1, fun j l hj => ⟨(h.2 j l hj).1, fun id => by rw [he]; exact (h.2 j l hj).2 id⟩⟩
theorem Pl.add {R : List (List Int)} {pos : Int → Option Nat} (h : Pl R pos) {j : Nat} {l : List Int} {id : Int} (hj : R[j]? = some l) (hp : pos id = none) : Pl (R.set j (l ++ [id])) (fun x => if x = id then some j else pos x) := by
  have hlt := (List.getElem?_eq_some_iff.1 hj).1
  refine ⟨by simpa using h.1, fun i l' hi => ?_⟩
  by_cases hij : i = j
  · subst hij
    rw [List.getElem?_set_self hlt] at hi
    cases hi
    obtain ⟨h1, h2⟩ := h.2 i l hj
    have hnot : id ∉ l := fun hm => by rw [(h2 id).1 hm] at hp; cases hp
    refine ⟨?_, fun x => ?_⟩
    · rw [List.nodup_append]
      exact ⟨h1, by simp, fun a ha b hb => by simp at hb; subst hb; intro e; subst e; exact hnot ha⟩
    · simp only [List.mem_append, List.mem_singleton]
      by_cases hx : x = id
      · simp [hx]
      · simp [hx, h2 x]
  · rw [List.getElem?_set_ne (Ne.symm hij)] at hi
    obtain ⟨h1, h2⟩ := h.2 i l' hi
    refine ⟨h1, fun x => ?_⟩
    rw [h2 x]
    by_cases hx : x = id
    · subst hx; simp [hp, Ne.symm hij]
    · simp [hx]
theorem Pl.clear {R : List (List Int)} {pos : Int → Option Nat} (h : Pl R pos) (j : Nat) : Pl (R.set j []) (fun x => if pos x = some j then none else pos x) := by
  refine ⟨by simpa using h.1, fun i l' hi => ?_⟩
  by_cases hij : i = j
  · subst hij
    rw [List.getElem?_set] at hi
    split at hi
    · split at hi
      · cases hi
        refine ⟨List.nodup_nil, fun x => ?_⟩
        simp only [List.not_mem_nil, false_iff]
        split
        · simp
        · assumption
      · cases hi
    · rename_i h'; exact absurd rfl h'
  · rw [List.getElem?_set_ne (Ne.symm hij)] at hi
    obtain ⟨h1, h2⟩ := h.2 i l' hi
    refine ⟨h1, fun x => ?_⟩
    rw [h2 x]
    show pos x = some i ↔ (if pos x = some j then none else pos x) = some i
    by_cases hx : pos x = some j
    · rw [if_pos hx, hx]; simp [Ne.symm hij]
    · rw [if_neg hx]
theorem Pl.del {R : List (List Int)} {pos : Int → Option Nat} (h : Pl R pos) {j : Nat} {l : List Int} {id : Int} (hj : R[j]? = some l) (hp : pos id = some j) : Pl (R.set j (l.filter (fun x => decide (x ≠ id)))) (fun x => if x = id then none else pos x) := by
  have hlt := (List.getElem?_eq_some_iff.1 hj).1
  refine ⟨by simpa using h.1, fun i l' hi => ?_⟩
  by_cases hij : i = j
  · subst hij
    rw [List.getElem?_set_self hlt] at hi
    cases hi
    obtain ⟨h1, h2⟩ := h.2 i l hj
    refine ⟨h1.filter _, fun x => ?_⟩
    simp only [List.mem_filter, decide_eq_true_eq, h2 x]
    by_cases hx : x = id
    · simp [hx]
    · simp [hx]
  · rw [List.getElem?_set_ne (Ne.symm hij)] at hi
    obtain ⟨h1, h2⟩ := h.2 i l' hi
    refine ⟨h1, fun x => ?_⟩
    rw [h2 x]
    by_cases hx : x = id
    · subst hx; simp [hp, Ne.symm hij]
    · simp [hx]

noncomputable def posT (now : Nat) (T : List (Int × Int)) (id : Int) : Option Nat := (mget T id).map fun t => slot now t.toNat
/-- What is always so of the timers. -/
structure Ok (now : Nat) (T : List (Int × Int)) : Prop where
  nd : (mkeys T).Nodup
  id : ∀ id t, mget T id = some t → 0 ≤ id ∧ id ≤ 65535
  t : ∀ id t, mget T id = some t → (now : Int) ≤ t ∧ t < 1099511627776
  n : now ≤ 1099511627776
structure Inv (now : Nat) (T : List (Int × Int)) (R : List (List Int)) : Prop where
  ok : Ok now T
  pl : Pl R (posT now T)
theorem Ok.keys {now : Nat} {T : List (Int × Int)} (h : Ok now T) : T.length ≤ 65536 := by
  have := ids_len h.nd (fun x hx => by
    obtain ⟨e, he, rfl⟩ := List.mem_map.1 hx
    exact h.id e.1 e.2 (mget_of_mem h.nd he))
  simpa [mkeys] using this
theorem Pl.len {now : Nat} {T : List (Int × Int)} {R : List (List Int)} {pos : Int → Option Nat} (h : Pl R pos) (ok : Ok now T) (hp : ∀ id j, pos id = some j → mget T id ≠ none) {j : Nat} {l : List Int} (hj : R[j]? = some l) : l.length ≤ 65536 := by
  refine ids_len (h.2 j l hj).1 (fun x hx => ?_)
  have := hp x j (((h.2 j l hj).2 x).1 hx)
  cases hm : mget T x with
  | none => exact absurd hm this
  | some t => exact ok.id x t hm

/-- Behind the levels above L, on the way from now to to. -/
noncomputable def posL (now to L : Nat) (T : List (Int × Int)) (id : Int) : Option Nat := (mget T id).map fun t => if L < lev now t.toNat then slot to t.toNat else slot now t.toNat
theorem lev_between {now to t l : Nat} (h1 : now ≤ to) (h2 : to ≤ t) (h : t / 64 ^ l = now / 64 ^ l) : to / 64 ^ l = t / 64 ^ l := by
  have := div_mono h1 l
  have := div_mono h2 l
  omega
theorem slot_eq {now t l d : Nat} (hd : d < 64) (h : slot now t = l * 64 + d) : lev now t = l ∧ dig t l = d := by
  obtain ⟨h1, h2⟩ := slot_split (dig_lt t (lev now t)) hd h
  rw [h1] at h2
  exact ⟨h1, h2⟩
/-- One timer, behind one level more. -/
theorem pos_step {now to t L : Nat} (h1 : now ≤ to) (h2 : to ≤ t) (hL : 1 ≤ L) :
    (if L - 1 < lev now t then slot to t else slot now t) = (if (if L < lev now t then slot to t else slot now t) = L * 64 + dig to L then slot to t else (if L < lev now t then slot to t else slot now t)) := by
  have hln := lev_is now t
  have hlt := lev_is to t
  rcases Nat.lt_trichotomy L (lev now t) with h | h | h
  · rw [if_pos (show L - 1 < lev now t by omega), if_pos h]
    split <;> rfl
  · rw [if_pos (show L - 1 < lev now t by omega), if_neg (show ¬ L < lev now t by omega)]
    split
    · rfl
    · rename_i hne
      -- the slot stays
      have e : slot now t = L * 64 + dig t L := by unfold slot; rw [← h]
      have hdig : dig t L ≠ dig to L := fun hd => hne (by rw [e, hd])
      have hup : t / 64 ^ (L + 1) = now / 64 ^ (L + 1) := by rw [h]; exact hln.1
      have hup2 := lev_between h1 h2 hup
      have : lev to t = L := lev_eq ⟨hup2.symm, .inr (fun he => hdig (by unfold dig; rw [he]))⟩
      rw [e]; unfold slot; rw [this]
  · rw [if_neg (show ¬ L - 1 < lev now t by omega), if_neg (show ¬ L < lev now t by omega)]
    rw [if_neg]
    intro he
    have := (slot_eq (dig_lt to L) he).1
    omega
theorem pos_laid {now to t L : Nat} (h1 : now ≤ to) (h2 : to ≤ t) (hL : 1 ≤ L) : slot to t ≠ L * 64 + dig to L := by
  intro he
  obtain ⟨h3, h4⟩ := slot_eq (dig_lt to L) he
  have hl := lev_is to t
  rw [h3] at hl
  rcases hl.2 with h | h
  · omega
  · apply h
    rw [div_split t L, div_split to L, hl.1, h4]
theorem pos_first {now to t : Nat} (h : lev now t ≤ 6) : (if 6 < lev now t then slot to t else slot now t) = slot now t := by rw [if_neg (by omega)]
theorem pos_last {now to t : Nat} (h1 : now ≤ to) (h2 : to ≤ t) : (if 0 < lev now t then slot to t else slot now t) = slot to t := by
  split
  · rfl
  · have h0 : lev now t = 0 := by omega
    have hl := lev_is now t
    rw [h0] at hl
    have hup := lev_between h1 h2 hl.1
    have : lev to t = 0 := lev_eq ⟨hup.symm, .inl rfl⟩
    unfold slot; rw [h0, this]
end Go.Proofs.Ytbbjljhbiaeadaa
