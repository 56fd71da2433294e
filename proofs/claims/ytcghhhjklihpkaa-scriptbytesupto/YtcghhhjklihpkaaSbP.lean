/- script: inputs told as bytes, and read again: the plain law. -/
import Derived.Test.YtcghhhjklihpkaaSbG
set_option linter.unusedSimpArgs false
set_option linter.unusedVariables false
namespace Go.Proofs.Ytcghhhjklihpkaa
open Go.Bk Go.RowKit

def uw (x : Int) : Nat := (IntKind.u64.wrap x).toNat
theorem uw_wrap (x : Int) : IntKind.u64.wrap x = ((uw x : Nat) : Int) := by
  unfold uw
  have : IntKind.u64.wrap x = x % 18446744073709551616 := by simp [IntKind.wrap, IntKind.signed, IntKind.bits]
  rw [this]; omega
theorem uw_emod (x : Int) : ((uw x : Nat) : Int) = x % 18446744073709551616 := by
  rw [← uw_wrap]; simp [IntKind.wrap, IntKind.signed, IntKind.bits]
theorem uw_lt (x : Int) : uw x < 18446744073709551616 := by have := uw_emod x; omega
/-- The number of 64 bits. -/
def sg (n : Nat) : Int := if n < 9223372036854775808 then (n : Int) else (n : Int) - 18446744073709551616
def Ok64 (x : Int) : Prop := -9223372036854775808 ≤ x ∧ x < 9223372036854775808
theorem sg_ok {n : Nat} (h : n < 18446744073709551616) : Ok64 (sg n) := by unfold sg Ok64; split <;> omega
theorem sg_uw {x : Int} (h : Ok64 x) : sg (uw x) = x := by
  have := uw_emod x
  unfold Ok64 at h
  unfold sg
  split <;> omega
theorem uw_sg {n : Nat} (h : n < 18446744073709551616) : uw (sg n) = n := by
  have := uw_emod (sg n)
  by_cases hn : n < 9223372036854775808
  · have e : sg n = n := by unfold sg; rw [if_pos hn]
    rw [e] at this ⊢; omega
  · have e : sg n = (n : Int) - 18446744073709551616 := by unfold sg; rw [if_neg hn]
    rw [e] at this ⊢; omega
theorem sg_wrap {n : Nat} (h : n < 18446744073709551616) : IntKind.i64.wrap (n : Int) = sg n := by
  unfold sg
  simp only [IntKind.wrap, IntKind.signed, IntKind.bits]
  simp
  split <;> omega

/-- A number of bytes, the highest first. -/
def be (l : List Nat) : Nat := l.foldl (fun x c => x * 256 + c) 0
theorem be_acc (l : List Nat) : ∀ a, l.foldl (fun x c => x * 256 + c) a = a * 256 ^ l.length + be l := by
  induction l with
  | nil => intro a; simp [be]
  | cons c l ih =>
    intro a
    have h0 := ih (0 * 256 + c)
    simp only [be, List.foldl_cons, List.length_cons] at h0 ⊢
    rw [ih, h0, Nat.pow_succ]
    simp only [be, Nat.zero_mul, Nat.zero_add, Nat.add_mul]
    have : a * 256 * 256 ^ l.length = a * (256 ^ l.length * 256) := by rw [Nat.mul_assoc, Nat.mul_comm 256]
    omega
theorem be_cons (c : Nat) (l : List Nat) : be (c :: l) = c * 256 ^ l.length + be l := by
  have := be_acc l c
  simp only [be, List.foldl_cons, Nat.zero_mul, Nat.zero_add] at this ⊢
  exact this
theorem be_snoc (l : List Nat) (c : Nat) : be (l ++ [c]) = be l * 256 + c := by simp [be, List.foldl_append]
theorem be_lt (l : List Nat) (h : ∀ c ∈ l, c < 256) : be l < 256 ^ l.length := by
  induction l with
  | nil => simp [be]
  | cons c l ih =>
    rw [be_cons, List.length_cons, Nat.pow_succ]
    have h1 := ih (fun x hx => h x (List.mem_cons_of_mem _ hx))
    have h2 := h c (List.mem_cons_self ..)
    have h3 : c * 256 ^ l.length ≤ 255 * 256 ^ l.length := Nat.mul_le_mul_right _ (by omega)
    omega
theorem numTop_cons (x n : Nat) : numTop x (n + 1) (n + 1) = x / 256 ^ n % 256 :: numTop x n n := by
  unfold numTop
  rw [List.range_succ_eq_map, List.map_cons, List.map_map]
  congr 1
  apply List.map_congr_left
  intro j hj
  have := List.mem_range.1 hj
  simp only [Function.comp_apply]
  rw [show n + 1 - 1 - j.succ = n - 1 - j by omega]
theorem be_numTop (x n : Nat) : be (numTop x n n) = x % 256 ^ n := by
  induction n with
  | zero => simp [numTop, be, Nat.mod_one]
  | succ n ih =>
    rw [numTop_cons, be_cons, numTop_len, ih, Nat.pow_succ, Nat.mod_mul]
    rw [Nat.mul_comm, Nat.add_comm]
theorem numTop_be (l : List Nat) (h : ∀ c ∈ l, c < 256) : numTop (be l) l.length l.length = l := by
  induction l with
  | nil => simp [numTop]
  | cons c l ih =>
    have h1 := be_lt l (fun x hx => h x (List.mem_cons_of_mem _ hx))
    have h2 := h c (List.mem_cons_self ..)
    rw [List.length_cons, numTop_cons, be_cons]
    have hp : 0 < 256 ^ l.length := Nat.pow_pos (by omega)
    have e1 : (c * 256 ^ l.length + be l) / 256 ^ l.length = c := by
      rw [Nat.add_comm, Nat.add_mul_div_right _ _ hp, Nat.div_eq_of_lt h1]; omega
    rw [e1, Nat.mod_eq_of_lt h2]
    congr 1
    rw [← ih (fun x hx => h x (List.mem_cons_of_mem _ hx))]
    -- the lower bytes know nothing of what is above
    unfold numTop
    simp only [List.length_map, List.length_range]
    apply List.map_congr_left
    intro j hj
    have hj := List.mem_range.1 hj
    have hih := ih (fun x hx => h x (List.mem_cons_of_mem _ hx))
    have e : be (List.map (fun j => be l / 256 ^ (l.length - 1 - j) % 256) (List.range l.length)) = be l := by
      have := hih
      unfold numTop at this
      rw [this]
    rw [e]
    have e2 : 256 ^ l.length = 256 ^ (l.length - 1 - j) * 256 * 256 ^ j := by
      rw [← Nat.pow_succ, ← Nat.pow_add]; congr 1; omega
    have e3 : c * 256 ^ l.length + be l = be l + 256 ^ (l.length - 1 - j) * (c * 256 ^ j * 256) := by
      rw [e2, Nat.add_comm]
      congr 1
      ac_rfl
    rw [e3, Nat.add_mul_div_left _ _ (Nat.pow_pos (by omega)), Nat.add_mul_mod_self_right]

def n8 (x : Int) : List Nat := numTop (uw x) 8 8
def n4 (n : Nat) : List Nat := numTop n 4 4
theorem n8_len (x : Int) : (n8 x).length = 8 := numTop_len ..
theorem n4_len (n : Nat) : (n4 n).length = 4 := numTop_len ..
theorem be_w8 (x : Int) : be (n8 x) = uw x := by
  unfold n8; rw [be_numTop]; exact Nat.mod_eq_of_lt (uw_lt x)
theorem be_n4 {n : Nat} (h : n < 4294967296) : be (n4 n) = n := by
  unfold n4; rw [be_numTop]; exact Nat.mod_eq_of_lt h
/-- Words, an input, a list of inputs as bytes. -/
def encD (d : List Int) : List Nat := (d.map n8).flatten
def enc1 (x : In) : List Nat := n8 x.t ++ n8 x.k ++ n8 x.g ++ n4 x.d.length ++ encD x.d
def encs (l : List In) : List Nat := (l.map enc1).flatten
def encL (l : List In) : List Nat := n4 l.length ++ encs l
theorem encD_cons (y : Int) (d : List Int) : encD (y :: d) = n8 y ++ encD d := by simp [encD]
theorem encs_cons (x : In) (l : List In) : encs (x :: l) = enc1 x ++ encs l := by simp [encs]
theorem encD_append (a b : List Int) : encD (a ++ b) = encD a ++ encD b := by simp [encD]
theorem encD_len (d : List Int) : (encD d).length = 8 * d.length := by
  induction d with
  | nil => rfl
  | cons y d ih => rw [encD_cons, List.length_append, n8_len, ih, List.length_cons]; omega
theorem enc1_len (x : In) : (enc1 x).length = 28 + 8 * x.d.length := by
  simp only [enc1, List.length_append, n8_len, n4_len, encD_len]
theorem encs_append (a b : List In) : encs (a ++ b) = encs a ++ encs b := by simp [encs]
theorem n8_lt (x : Int) : ∀ c ∈ n8 x, c < 256 := numTop_lt _ _ _
theorem n4_lt (x : Nat) : ∀ c ∈ n4 x, c < 256 := numTop_lt _ _ _
theorem encL_lt (l : List In) : ∀ c ∈ encL l, c < 256 := by
  intro c hc
  rcases List.mem_append.1 hc with h | h
  · exact n4_lt _ _ h
  · simp only [encs, List.mem_flatten, List.mem_map] at h
    obtain ⟨_, ⟨x, _, rfl⟩, h⟩ := h
    simp only [enc1, List.mem_append] at h
    rcases h with (((h | h) | h) | h) | h
    · exact n8_lt _ _ h
    · exact n8_lt _ _ h
    · exact n8_lt _ _ h
    · exact n4_lt _ _ h
    · simp only [encD, List.mem_flatten, List.mem_map] at h
      obtain ⟨_, ⟨y, _, rfl⟩, h⟩ := h
      exact n8_lt _ _ h

/-! reading: none is a fault -/
abbrev RS := Option (List Nat)
def rd (n : Nat) : RS → Nat × RS
  | none => (0, none)
  | some r => if n ≤ r.length then (be (r.take n), some (r.drop n)) else (0, none)
/-- so many of a kind; at a fault: none -/
def many {α : Type} (g : RS → α × RS) : Nat → RS → List α × RS
  | 0, s => ([], s)
  | n + 1, s =>
    match g s with
    | (_, none) => ([], none)
    | (a, s') => match many g n s' with
      | (_, none) => ([], none)
      | (l, s'') => (a :: l, s'')
def getList {α : Type} (most : Nat) (g : RS → α × RS) (s : RS) : List α × RS :=
  match rd 4 s with
  | (_, none) => ([], none)
  | (n, some r) => if n > most then ([], none) else if n > r.length then ([], none) else many g n (some r)
def rdI (s : RS) : Int × RS := (sg (rd 8 s).1, (rd 8 s).2)
def getIn (s : RS) : In × RS :=
  let a := rdI s
  let b := rdI a.2
  let c := rdI b.2
  let d := getList 4194316 rdI c.2
  (⟨a.1, b.1, c.1, d.1⟩, d.2)
def strict (b : List Nat) : Option (List In) :=
  match getList 65536 getIn (some b) with
  | (l, some []) => some l
  | _ => none

theorem rdI_none : rdI none = (0, none) := rfl
theorem rdI_some {r : List Nat} (h : 8 ≤ r.length) : rdI (some r) = (sg (be (r.take 8)), some (r.drop 8)) := by simp [rdI, rd, h]
theorem rdI_short {r : List Nat} (h : ¬ 8 ≤ r.length) : (rdI (some r)).2 = none := by simp [rdI, rd, h]

def GoodI (x : In) : Prop := Ok64 x.t ∧ Ok64 x.k ∧ Ok64 x.g ∧ ∀ y ∈ x.d, Ok64 y

theorem rdI_w8 {x : Int} (h : Ok64 x) (r : List Nat) : rdI (some (n8 x ++ r)) = (x, some r) := by
  rw [rdI_some (by rw [List.length_append, n8_len]; omega)]
  rw [show (n8 x ++ r).take 8 = n8 x by rw [List.take_append_of_le_length (by rw [n8_len]; omega), List.take_of_length_le (by rw [n8_len]; omega)]]
  rw [be_w8, sg_uw h, show (n8 x ++ r).drop 8 = r by rw [List.drop_append_of_le_length (by rw [n8_len]; omega), List.drop_of_length_le (by rw [n8_len]; omega), List.nil_append]]
theorem rd_n4 {n : Nat} (h : n < 4294967296) (r : List Nat) : rd 4 (some (n4 n ++ r)) = (n, some r) := by
  rw [rd, if_pos (by rw [List.length_append, n4_len]; omega)]
  rw [show (n4 n ++ r).take 4 = n4 n by rw [List.take_append_of_le_length (by rw [n4_len]; omega), List.take_of_length_le (by rw [n4_len]; omega)]]
  rw [be_n4 h, show (n4 n ++ r).drop 4 = r by rw [List.drop_append_of_le_length (by rw [n4_len]; omega), List.drop_of_length_le (by rw [n4_len]; omega), List.nil_append]]
theorem manyI_enc : ∀ (d : List Int) (r : List Nat), (∀ y ∈ d, Ok64 y) → many rdI d.length (some (encD d ++ r)) = (d, some r)
  | [], r, _ => by simp [many, encD]
  | y :: d, r, h => by
    rw [encD_cons, List.append_assoc, List.length_cons, many, rdI_w8 (h y (List.mem_cons_self ..))]
    simp only [manyI_enc d r (fun z hz => h z (List.mem_cons_of_mem _ hz))]
theorem getIn_enc {x : In} (h : GoodI x) (hl : x.d.length ≤ 4194316) (r : List Nat) : getIn (some (enc1 x ++ r)) = (x, some r) := by
  obtain ⟨h1, h2, h3, h4⟩ := h
  unfold getIn
  simp only [enc1, List.append_assoc]
  simp only [rdI_w8 h1, rdI_w8 h2, rdI_w8 h3]
  have e : getList 4194316 rdI (some (n4 x.d.length ++ (encD x.d ++ r))) = (x.d, some r) := by
    unfold getList
    rw [rd_n4 (by omega)]
    simp only
    rw [if_neg (by omega), if_neg (by rw [List.length_append, encD_len]; omega), manyI_enc x.d r h4]
  rw [e]
theorem manyIn_enc : ∀ (l : List In) (r : List Nat), (∀ x ∈ l, GoodI x ∧ x.d.length ≤ 4194316) → many getIn l.length (some (encs l ++ r)) = (l, some r)
  | [], r, _ => by simp [many, encs]
  | x :: l, r, h => by
    have h1 := h x (List.mem_cons_self ..)
    rw [encs_cons, List.append_assoc, List.length_cons, many, getIn_enc h1.1 h1.2]
    simp only [manyIn_enc l r (fun z hz => h z (List.mem_cons_of_mem _ hz))]
theorem encs_len_ge (l : List In) : l.length ≤ (encs l).length := by
  induction l with
  | nil => simp
  | cons x l ih => rw [encs_cons, List.length_append, enc1_len, List.length_cons]; omega
theorem strict_enc {l : List In} (h : ∀ x ∈ l, GoodI x ∧ x.d.length ≤ 4194316) (hl : l.length ≤ 65536) : strict (encL l) = some l := by
  have e : getList 65536 getIn (some (encL l)) = (l, some []) := by
    unfold getList encL
    rw [rd_n4 (by omega)]
    simp only
    have := encs_len_ge l
    rw [if_neg (by omega), if_neg (by omega)]
    have := manyIn_enc l [] h
    rwa [List.append_nil] at this
  unfold strict
  rw [e]

/-- Reading without a fault is telling. -/
theorem rdI_back {r r' : List Nat} {x : Int} (hb : ∀ c ∈ r, c < 256) (h : rdI (some r) = (x, some r')) : r = n8 x ++ r' ∧ Ok64 x := by
  by_cases hl : 8 ≤ r.length
  · rw [rdI_some hl] at h
    simp only [Prod.mk.injEq, Option.some.injEq] at h
    obtain ⟨rfl, rfl⟩ := h
    have hbt : ∀ c ∈ r.take 8, c < 256 := fun c hc => hb c (List.mem_of_mem_take hc)
    have hlt : be (r.take 8) < 18446744073709551616 := by
      have := be_lt _ hbt
      rw [List.length_take, Nat.min_eq_left hl] at this
      exact this
    refine ⟨?_, sg_ok hlt⟩
    rw [n8, uw_sg hlt]
    have := numTop_be _ hbt
    rw [List.length_take, Nat.min_eq_left hl] at this
    rw [this, List.take_append_drop]
  · have := rdI_short hl
    rw [h] at this
    cases this
theorem rdI_isNone (x : Int) (s : RS) (h : rdI s = (x, none)) : True := trivial
theorem manyI_back : ∀ (n : Nat) (r r' : List Nat) (d : List Int), (∀ c ∈ r, c < 256) → many rdI n (some r) = (d, some r') → r = encD d ++ r' ∧ d.length = n ∧ ∀ y ∈ d, Ok64 y
  | 0, r, r', d, _, h => by
    simp only [many, Prod.mk.injEq, Option.some.injEq] at h
    obtain ⟨rfl, rfl⟩ := h
    simp [encD]
  | n + 1, r, r', d, hb, h => by
    rw [many] at h
    match hg : rdI (some r) with
    | (_, none) => rw [hg] at h; simp at h
    | (a, some s) =>
      rw [hg] at h
      simp only at h
      obtain ⟨e, ho⟩ := rdI_back hb hg
      have hbs : ∀ c ∈ s, c < 256 := fun c hc => hb c (by rw [e]; exact List.mem_append_right _ hc)
      match hm : many rdI n (some s) with
      | (_, none) => rw [hm] at h; simp at h
      | (l, some t) =>
        rw [hm] at h
        simp only [Prod.mk.injEq, Option.some.injEq] at h
        obtain ⟨rfl, rfl⟩ := h
        obtain ⟨e2, h2, h3⟩ := manyI_back n s t l hbs hm
        refine ⟨by rw [e, e2, encD_cons, List.append_assoc], by simp [h2], fun y hy => ?_⟩
        rcases List.mem_cons.1 hy with rfl | hy
        · exact ho
        · exact h3 y hy
theorem rd4_back {r r' : List Nat} {n : Nat} (hb : ∀ c ∈ r, c < 256) (h : rd 4 (some r) = (n, some r')) : r = n4 n ++ r' ∧ n < 4294967296 := by
  rw [rd] at h
  split at h
  · rename_i hl
    simp only [Prod.mk.injEq, Option.some.injEq] at h
    obtain ⟨rfl, rfl⟩ := h
    have hbt : ∀ c ∈ r.take 4, c < 256 := fun c hc => hb c (List.mem_of_mem_take hc)
    have hlt := be_lt _ hbt
    have := numTop_be _ hbt
    rw [List.length_take, Nat.min_eq_left hl] at this hlt
    rw [n4, this, List.take_append_drop]
    exact ⟨rfl, hlt⟩
  · cases h
theorem getIn_back {r r' : List Nat} {x : In} (hb : ∀ c ∈ r, c < 256) (h : getIn (some r) = (x, some r')) : r = enc1 x ++ r' ∧ GoodI x := by
  unfold getIn at h
  match h1 : rdI (some r) with
  | (a, none) =>
    rw [h1] at h
    simp only [rdI_none, getList, rd] at h
    simp at h
  | (a, some r1) =>
    rw [h1] at h
    simp only at h
    obtain ⟨e1, o1⟩ := rdI_back hb h1
    have hb1 : ∀ c ∈ r1, c < 256 := fun c hc => hb c (by rw [e1]; exact List.mem_append_right _ hc)
    match h2 : rdI (some r1) with
    | (b, none) =>
      rw [h2] at h
      simp only [rdI_none, getList, rd] at h
      simp at h
    | (b, some r2) =>
      rw [h2] at h
      simp only at h
      obtain ⟨e2, o2⟩ := rdI_back hb1 h2
      have hb2 : ∀ c ∈ r2, c < 256 := fun c hc => hb1 c (by rw [e2]; exact List.mem_append_right _ hc)
      match h3 : rdI (some r2) with
      | (g, none) =>
        rw [h3] at h
        simp only [getList, rd] at h
        simp at h
      | (g, some r3) =>
        rw [h3] at h
        simp only at h
        obtain ⟨e3, o3⟩ := rdI_back hb2 h3
        have hb3 : ∀ c ∈ r3, c < 256 := fun c hc => hb2 c (by rw [e3]; exact List.mem_append_right _ hc)
        unfold getList at h
        match h4 : rd 4 (some r3) with
        | (n, none) => rw [h4] at h; simp at h
        | (n, some r4) =>
          rw [h4] at h
          simp only at h
          obtain ⟨e4, _⟩ := rd4_back hb3 h4
          have hb4 : ∀ c ∈ r4, c < 256 := fun c hc => hb3 c (by rw [e4]; exact List.mem_append_right _ hc)
          split at h
          · simp at h
          · split at h
            · simp at h
            · match h5 : many rdI n (some r4) with
              | (_, none) => rw [h5] at h; simp at h
              | (d, some r5) =>
                rw [h5] at h
                simp only [Prod.mk.injEq, Option.some.injEq] at h
                obtain ⟨rfl, rfl⟩ := h
                obtain ⟨e5, hn, o5⟩ := manyI_back n r4 r5 d hb4 h5
                refine ⟨?_, o1, o2, o3, o5⟩
                simp only [enc1, hn, List.append_assoc]
                rw [← e5, ← e4, ← e3, ← e2, ← e1]
theorem manyIn_back : ∀ (n : Nat) (r r' : List Nat) (l : List In), (∀ c ∈ r, c < 256) → many getIn n (some r) = (l, some r') → r = encs l ++ r' ∧ l.length = n ∧ ∀ y ∈ l, GoodI y
  | 0, r, r', d, _, h => by
    simp only [many, Prod.mk.injEq, Option.some.injEq] at h
    obtain ⟨rfl, rfl⟩ := h
    simp [encs]
  | n + 1, r, r', d, hb, h => by
    rw [many] at h
    match hg : getIn (some r) with
    | (_, none) => rw [hg] at h; simp at h
    | (a, some s) =>
      rw [hg] at h
      simp only at h
      obtain ⟨e, ho⟩ := getIn_back hb hg
      have hbs : ∀ c ∈ s, c < 256 := fun c hc => hb c (by rw [e]; exact List.mem_append_right _ hc)
      match hm : many getIn n (some s) with
      | (_, none) => rw [hm] at h; simp at h
      | (l, some t) =>
        rw [hm] at h
        simp only [Prod.mk.injEq, Option.some.injEq] at h
        obtain ⟨rfl, rfl⟩ := h
        obtain ⟨e2, h2, h3⟩ := manyIn_back n s t l hbs hm
        refine ⟨by rw [e, e2, encs_cons, List.append_assoc], by simp [h2], fun y hy => ?_⟩
        rcases List.mem_cons.1 hy with rfl | hy
        · exact ho
        · exact h3 y hy
theorem strict_back {b : List Nat} {l : List In} (hb : ∀ c ∈ b, c < 256) (h : strict b = some l) : encL l = b ∧ (∀ x ∈ l, GoodI x) ∧ l.length ≤ 65536 := by
  unfold strict getList at h
  match h4 : rd 4 (some b) with
  | (n, none) => rw [h4] at h; simp at h
  | (n, some r) =>
    rw [h4] at h
    simp only at h
    obtain ⟨e4, _⟩ := rd4_back hb h4
    have hb4 : ∀ c ∈ r, c < 256 := fun c hc => hb c (by rw [e4]; exact List.mem_append_right _ hc)
    by_cases h1 : n > 65536
    · rw [if_pos h1] at h; simp at h
    · rw [if_neg h1] at h
      by_cases h2 : n > r.length
      · rw [if_pos h2] at h; simp at h
      · rw [if_neg h2] at h
        match h5 : many getIn n (some r) with
        | (_, none) => rw [h5] at h; simp at h
        | (d, some (c :: t)) => rw [h5] at h; simp at h
        | (d, some []) =>
          rw [h5] at h
          simp only [Option.some.injEq] at h
          subst h
          obtain ⟨e5, hn, o5⟩ := manyIn_back n r [] d hb4 h5
          refine ⟨?_, o5, by omega⟩
          rw [encL, hn, e4, e5, List.append_nil]

/-! the document's way: as far as it goes -/
/-- n bytes of r from p on, 0 beyond the end -/
def atN (r : List Nat) (p : Nat) : Nat → Nat
  | 0 => 0
  | n + 1 => atN r p n * 256 + r[p + n]?.getD 0
def lenD (k : Nat) (b : List Nat) (p : Nat) : List Int × Nat :=
  match k with
  | 0 => ([], p)
  | k + 1 => if p < b.length then (sg (atN b p 8) :: (lenD k b (p + 8)).1, (lenD k b (p + 8)).2) else ([], p)
def lenL (n : Nat) (b : List Nat) (p : Nat) : List In :=
  match n with
  | 0 => []
  | n + 1 => if p < b.length then
      ⟨sg (atN b p 8), sg (atN b (p + 8) 8), sg (atN b (p + 16) 8), (lenD (atN b (p + 24) 4) b (p + 28)).1⟩ :: lenL n b (lenD (atN b (p + 24) 4) b (p + 28)).2
    else []
def lenient (b : List Nat) : List In := lenL (atN b 0 4) b 4

theorem atN_be (b : List Nat) (p n : Nat) (m r : List Nat) (a : List Nat) (hb : b = a ++ m ++ r) (ha : a.length = p) (hm : n ≤ m.length) : atN b p n = be (m.take n) := by
  induction n with
  | zero => simp [atN, be]
  | succ n ih =>
    rw [atN, ih (by omega), List.take_add_one]
    have hx : b[p + n]? = m[n]? := by
      rw [hb, List.append_assoc, List.getElem?_append_right (by omega), List.getElem?_append_left (by omega)]
      congr 1; omega
    rw [hx, List.getElem?_eq_getElem (by omega)]
    simp only [Option.getD_some, Option.toList_some]
    rw [be_snoc]
theorem atN_w8 {b a r : List Nat} {p : Nat} (x : Int) (hx : Ok64 x) (hb : b = a ++ n8 x ++ r) (ha : a.length = p) : sg (atN b p 8) = x := by
  rw [atN_be b p 8 (n8 x) r a hb ha (by rw [n8_len]; omega), List.take_of_length_le (by rw [n8_len]; omega), be_w8, sg_uw hx]
theorem atN_n4 {b a r : List Nat} {p n : Nat} (hx : n < 4294967296) (hb : b = a ++ n4 n ++ r) (ha : a.length = p) : atN b p 4 = n := by
  rw [atN_be b p 4 (n4 n) r a hb ha (by rw [n4_len]; omega), List.take_of_length_le (by rw [n4_len]; omega), be_n4 hx]
theorem lenD_enc : ∀ (d : List Int) (b a r : List Nat) (p : Nat), b = a ++ encD d ++ r → a.length = p → (∀ y ∈ d, Ok64 y) → lenD d.length b p = (d, p + 8 * d.length)
  | [], b, a, r, p, _, _, _ => by simp [lenD]
  | y :: d, b, a, r, p, hb, ha, ho => by
    rw [encD_cons] at hb
    have hb1 : b = a ++ n8 y ++ (encD d ++ r) := by simp [hb]
    have hb2 : b = (a ++ n8 y) ++ encD d ++ r := by simp [hb]
    rw [List.length_cons, lenD, if_pos (by rw [hb1]; simp only [List.length_append, n8_len]; omega)]
    rw [lenD_enc d b (a ++ n8 y) r (p + 8) hb2 (by rw [List.length_append, n8_len, ha]) (fun z hz => ho z (List.mem_cons_of_mem _ hz))]
    simp only
    rw [atN_w8 y (ho y (List.mem_cons_self ..)) hb1 ha]
    congr 1; omega
theorem lenL_enc : ∀ (l : List In) (b a r : List Nat) (p : Nat), b = a ++ encs l ++ r → a.length = p → (∀ x ∈ l, GoodI x ∧ x.d.length ≤ 4194316) → lenL l.length b p = l
  | [], b, a, r, p, _, _, _ => by simp [lenL]
  | x :: l, b, a, r, p, hb, ha, ho => by
    rw [encs_cons] at hb
    obtain ⟨⟨o1, o2, o3, o4⟩, hd⟩ := ho x (List.mem_cons_self ..)
    have b1 : b = a ++ n8 x.t ++ (n8 x.k ++ n8 x.g ++ n4 x.d.length ++ encD x.d ++ encs l ++ r) := by simp [hb, enc1]
    have b2 : b = (a ++ n8 x.t) ++ n8 x.k ++ (n8 x.g ++ n4 x.d.length ++ encD x.d ++ encs l ++ r) := by simp [hb, enc1]
    have b3 : b = (a ++ n8 x.t ++ n8 x.k) ++ n8 x.g ++ (n4 x.d.length ++ encD x.d ++ encs l ++ r) := by simp [hb, enc1]
    have b4 : b = (a ++ n8 x.t ++ n8 x.k ++ n8 x.g) ++ n4 x.d.length ++ (encD x.d ++ encs l ++ r) := by simp [hb, enc1]
    have b5 : b = (a ++ n8 x.t ++ n8 x.k ++ n8 x.g ++ n4 x.d.length) ++ encD x.d ++ (encs l ++ r) := by simp [hb, enc1]
    have b6 : b = (a ++ enc1 x) ++ encs l ++ r := by simp [hb]
    rw [List.length_cons, lenL, if_pos (by rw [b1]; simp only [List.length_append, n8_len]; omega)]
    rw [atN_n4 (show x.d.length < 4294967296 by omega) b4 (by simp only [List.length_append, n8_len]; omega)]
    rw [lenD_enc x.d b _ _ (p + 28) b5 (by simp only [List.length_append, n8_len, n4_len]; omega) o4]
    simp only
    rw [lenL_enc l b (a ++ enc1 x) r (p + 28 + 8 * x.d.length) b6 (by rw [List.length_append, enc1_len]; omega) (fun z hz => ho z (List.mem_cons_of_mem _ hz))]
    rw [atN_w8 x.t o1 b1 ha, atN_w8 x.k o2 b2 (by simp only [List.length_append, n8_len]; omega), atN_w8 x.g o3 b3 (by simp only [List.length_append, n8_len]; omega)]
theorem lenient_enc {l : List In} (h : ∀ x ∈ l, GoodI x ∧ x.d.length ≤ 4194316) (hl : l.length ≤ 65536) : lenient (encL l) = l := by
  unfold lenient
  have e : atN (encL l) 0 4 = l.length := atN_n4 (a := []) (r := encs l) (by omega) (by simp [encL]) rfl
  rw [e]
  exact lenL_enc l _ (n4 l.length) [] 4 (by simp [encL]) (n4_len _) h

theorem atN_lt (b : List Nat) (hb : ∀ c ∈ b, c < 256) (p n : Nat) : atN b p n < 256 ^ n := by
  induction n with
  | zero => simp [atN]
  | succ n ih =>
    rw [atN, Nat.pow_succ]
    have : b[p + n]?.getD 0 < 256 := by
      match h : b[p + n]? with
      | none => simp
      | some c => simpa using hb c (List.mem_of_getElem? h)
    omega
theorem lenD_good (b : List Nat) (hb : ∀ c ∈ b, c < 256) : ∀ (k p : Nat), ∀ y ∈ (lenD k b p).1, Ok64 y
  | 0, p, y, hy => by simp [lenD] at hy
  | k + 1, p, y, hy => by
    rw [lenD] at hy
    split at hy
    · simp only [List.mem_cons] at hy
      rcases hy with rfl | hy
      · exact sg_ok (by have := atN_lt b hb p 8; simpa using this)
      · exact lenD_good b hb k (p + 8) y hy
    · simp at hy
theorem lenL_good (b : List Nat) (hb : ∀ c ∈ b, c < 256) : ∀ (n p : Nat), ∀ x ∈ lenL n b p, GoodI x
  | 0, p, x, hx => by simp [lenL] at hx
  | n + 1, p, x, hx => by
    rw [lenL] at hx
    split at hx
    · simp only [List.mem_cons] at hx
      have h8 : ∀ p, atN b p 8 < 18446744073709551616 := fun p => by have := atN_lt b hb p 8; simpa using this
      rcases hx with rfl | hx
      · exact ⟨sg_ok (h8 _), sg_ok (h8 _), sg_ok (h8 _), lenD_good b hb _ _⟩
      · exact lenL_good b hb n _ x hx
    · simp at hx
theorem lenL_len (b : List Nat) : ∀ (n p : Nat), (lenL n b p).length ≤ n
  | 0, p => by simp [lenL]
  | n + 1, p => by
    rw [lenL]
    split
    · simp only [List.length_cons]; have := lenL_len b n (lenD (atN b (p + 24) 4) b (p + 28)).2; omega
    · simp
theorem encs_mem {l : List In} {x : In} (h : x ∈ l) : 8 * x.d.length ≤ (encs l).length := by
  induction l with
  | nil => cases h
  | cons y l ih =>
    rw [encs_cons, List.length_append, enc1_len]
    rcases List.mem_cons.1 h with rfl | h
    · omega
    · have := ih h; omega

/-- THE PLAIN LAW: reading strictly comes to an end just if what is read as far as it goes tells the same bytes. -/
theorem decode_same {b : List Nat} (hb : ∀ c ∈ b, c < 256) (hl : b.length ≤ 4194304) (hn : 4 ≤ b.length → atN b 0 4 ≤ 65536) :
    strict b = if encL (lenient b) = b then some (lenient b) else none := by
  by_cases he : encL (lenient b) = b
  · rw [if_pos he]
    have hlen : (lenient b).length ≤ 65536 := by
      by_cases h4 : 4 ≤ b.length
      · exact Nat.le_trans (lenL_len b _ _) (hn h4)
      · unfold lenient
        have : ∀ n, lenL n b 4 = [] := by
          intro n
          cases n with
          | zero => rfl
          | succ n => rw [lenL, if_neg (by omega)]
        rw [this]; simp
    have hg : ∀ x ∈ lenient b, GoodI x ∧ x.d.length ≤ 4194316 := by
      intro x hx
      refine ⟨lenL_good b hb _ _ x hx, ?_⟩
      have h1 := encs_mem hx
      have h2 := congrArg List.length he
      rw [encL, List.length_append, n4_len] at h2
      omega
    have := strict_enc hg hlen
    rwa [he] at this
  · rw [if_neg he]
    match h : strict b with
    | none => rfl
    | some l =>
      obtain ⟨e, hg, hll⟩ := strict_back hb h
      have hg2 : ∀ x ∈ l, GoodI x ∧ x.d.length ≤ 4194316 := by
        intro x hx
        refine ⟨hg x hx, ?_⟩
        have h1 := encs_mem hx
        have h2 := congrArg List.length e
        rw [encL, List.length_append, n4_len] at h2
        omega
      have := lenient_enc hg2 hll
      rw [e] at this
      rw [this] at he
      exact absurd e he
theorem sealed_inj {kd : Nat} {a b : List Nat} (h : sealed kd a = sealed kd b) : a = b := by
  have hl : a.length = b.length := by have := congrArg List.length h; rw [sealed_len, sealed_len] at this; omega
  unfold sealed at h
  have h1 := (List.append_inj h (by rw [inner_len, inner_len, hl])).1
  unfold inner at h1
  exact (List.append_inj h1 (by simp [numTop_len])).2
end Go.Proofs.Ytcghhhjklihpkaa
