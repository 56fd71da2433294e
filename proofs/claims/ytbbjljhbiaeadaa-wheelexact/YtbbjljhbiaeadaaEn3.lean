/- The engine, part 3: a region's operations in whatever order the edges allow. -/
import Derived.Test.YtbbjljhbiaeadaaEn2b
set_option linter.unusedSimpArgs false
set_option linter.unusedVariables false
namespace Go.Bk
section
variable {P : Program} {ops : Array Oper} {w : World}

/-- Operation i, then K. -/
def m1 (P : Program) (ops : Array Oper) (i : Nat) (K : Act → World → Prop) (a : Act) (w : World) : Prop :=
  match ops[i]? with
  | none => K a w
  | some o => if Region.wanted o (yielded ops a.tmps) = true then sayOp P o a.eval w (fun v w' => K (a.put o.dst v) w') else K (a.put o.dst undef) w

def mRun (P : Program) (ops : Array Oper) : List Nat → (Act → World → Prop) → Act → World → Prop
  | [], K => K
  | i :: r, K => m1 P ops i (mRun P ops r K)

theorem m1_mono {i : Nat} {K K' : Act → World → Prop} {a : Act} (h : m1 P ops i K a w) (hk : ∀ a w, K a w → K' a w) : m1 P ops i K' a w := by
  unfold m1 at *
  split
  · rename_i ho; rw [ho] at h; exact hk _ _ h
  · rename_i o ho
    rw [ho] at h
    simp only at h ⊢
    split
    · rename_i hw; rw [if_pos hw] at h; exact sayOp_mono h (fun v w' hv => hk _ _ hv)
    · rename_i hw; rw [if_neg hw] at h; exact hk _ _ h

theorem mRun_mono {l : List Nat} : ∀ {K K' : Act → World → Prop} {a : Act} {w : World}, mRun P ops l K a w → (∀ a w, K a w → K' a w) → mRun P ops l K' a w := by
  induction l with
  | nil => intro K K' a w h hk; exact hk _ _ h
  | cons i r ih => intro K K' a w h hk; exact m1_mono h (fun a w h => ih h hk)

theorem mRun_append (l r : List Nat) (K : Act → World → Prop) : mRun P ops (l ++ r) K = mRun P ops l (mRun P ops r K) := by
  induction l with
  | nil => rfl
  | cons i l ih => simp only [List.cons_append, mRun, ih]

theorem sayOp_wp {o : Oper} {a : Act} {K : Act → World → Prop} {Q : Exit → Act → World → Prop} (h : sayOp P o a.eval w (fun v w' => K (a.put o.dst v) w')) : o.wp P a w K Q := by
  unfold Oper.wp
  unfold sayOp at h
  split at h
  · obtain ⟨v, hv, hk⟩ := h; rw [dryOp_run hv w]; exact hk
  · obtain ⟨v, hv, hk⟩ := h; rw [lookOp_run hv]; exact hk
  · exact upon_pNext h (fun _ _ h => h)

theorem m1_wpOp {i : Nat} {K : Act → World → Prop} {a : Act} {Q : Exit → Act → World → Prop} (h : m1 P ops i K a w) : wpOp P ops Q i K a w := by
  unfold wpOp
  unfold m1 at h
  split
  · rename_i ho; rw [ho] at h; exact h
  · rename_i o ho
    rw [ho] at h
    simp only at h
    split
    · rename_i hw; rw [if_pos hw] at h; exact .inl (sayOp_wp h)
    · rename_i hw; rw [if_neg hw] at h; exact h

/-- What an operation without effect yields. -/
def Still (P : Program) (ops : Array Oper) (o : Oper) (w : World) (v : Value) (a : Act) : Prop :=
  (Region.wanted o (yielded ops a.tmps) = true ∧ ((cls P o.op = .p ∧ dryOp P o a.eval = some v) ∨ (cls P o.op = .r ∧ lookOp P w o a.eval = some v))) ∨
  (Region.wanted o (yielded ops a.tmps) = false ∧ v = undef)

def Eff (P : Program) (ops : Array Oper) (o : Oper) (a : Act) : Prop := Region.wanted o (yielded ops a.tmps) = true ∧ cls P o.op = .e

theorem m1_split {i : Nat} {o : Oper} (ho : ops[i]? = some o) {K : Act → World → Prop} {a : Act} :
    m1 P ops i K a w ↔ (∃ v, Still P ops o w v a ∧ K (a.put o.dst v) w) ∨ (Eff P ops o a ∧ pNext P (execOp a.eval o) w (fun v w' => K (a.put o.dst v) w')) := by
  unfold m1 Still Eff
  rw [ho]
  simp only
  cases hw : Region.wanted o (yielded ops a.tmps) with
  | false => simp
  | true =>
    simp only [if_true, sayOp]
    cases hc : cls P o.op <;> simp

theorem Still.put {o o' : Oper} {v u : Value} {a : Act} (hs : ∀ cs b, o.op ≠ .select cs b) (h : Still P ops o w v a) (hd : ∀ d, o'.dst = some d → d ∉ o.looksAt ops) : Still P ops o w v (a.put o'.dst u) := by
  unfold Still dryOp lookOp at *
  rw [wanted_put o a o'.dst u hd, execOp_put o hs a o'.dst u hd]
  exact h

theorem Still.unput {o o' : Oper} {v u : Value} {a : Act} (hs : ∀ cs b, o.op ≠ .select cs b) (hd : ∀ d, o'.dst = some d → d ∉ o.looksAt ops) (h : Still P ops o w v (a.put o'.dst u)) : Still P ops o w v a := by
  unfold Still dryOp lookOp at *
  rw [wanted_put o a o'.dst u hd, execOp_put o hs a o'.dst u hd] at h
  exact h

theorem Still.world {o : Oper} {v : Value} {a : Act} {w' : World} (hc : cls P o.op ≠ .r) (h : Still P ops o w v a) : Still P ops o w' v a := by
  unfold Still at *
  rcases h with ⟨hw, ⟨h1, h2⟩ | ⟨h1, h2⟩⟩ | h
  · exact .inl ⟨hw, .inl ⟨h1, h2⟩⟩
  · exact absurd h1 hc
  · exact .inr h

theorem Still.eq {o : Oper} {v u : Value} {a : Act} (h : Still P ops o w v a) (h' : Still P ops o w u a) : v = u := by
  unfold Still at *
  rcases h with ⟨hw, ⟨h1, h2⟩ | ⟨h1, h2⟩⟩ | ⟨hw, h2⟩ <;> rcases h' with ⟨hw', ⟨h1', h2'⟩ | ⟨h1', h2'⟩⟩ | ⟨hw', h2'⟩
  all_goals first
    | (rw [hw] at hw'; cases hw'; done)
    | (rw [h1] at h1'; cases h1'; done)
    | (rw [h2] at h2'; cases h2'; rfl)
    | (rw [h2, h2'])

theorem Eff.put {o o' : Oper} {u : Value} {a : Act} (hd : ∀ d, o'.dst = some d → d ∉ o.looksAt ops) : Eff P ops o (a.put o'.dst u) ↔ Eff P ops o a := by
  unfold Eff; rw [wanted_put o a o'.dst u hd]

/-- Two operations that may be told in either order. -/
def compat (P : Program) (ops : Array Oper) (x y : Oper) : Bool :=
  x.apart ops y && y.apart ops x && (match cls P x.op, cls P y.op with | .p, _ => true | _, .p => true | .r, .r => true | _, _ => false)

theorem compat_cls {x y : Oper} (h : compat P ops x y = true) : (cls P x.op = .p ∨ cls P y.op = .p) ∨ (cls P x.op = .r ∧ cls P y.op = .r) := by
  simp only [compat, Bool.and_eq_true] at h
  obtain ⟨_, h⟩ := h
  cases hx : cls P x.op <;> cases hy : cls P y.op <;> simp_all

theorem m1_swap {i j : Nat} {oi oj : Oper} (hi : ops[i]? = some oi) (hj : ops[j]? = some oj) (hsi : ∀ cs b, oi.op ≠ .select cs b) (hsj : ∀ cs b, oj.op ≠ .select cs b)
    (hc : compat P ops oi oj = true) {K : Act → World → Prop} {a : Act} (h : m1 P ops j (m1 P ops i K) a w) : m1 P ops i (m1 P ops j K) a w := by
  have hcl := compat_cls hc
  have hap : oi.apart ops oj = true := by simp only [compat, Bool.and_eq_true] at hc; exact hc.1.1
  obtain ⟨h1, h2, h3⟩ := Oper.apart_spec hap
  -- h1: di not in looks j; h2: dsts differ; h3: dj not in looks i
  have comm : ∀ u v, (a.put oi.dst u).put oj.dst v = (a.put oj.dst v).put oi.dst u := fun u v => Act.put_comm a u v h2
  rw [m1_split hj] at h
  rw [m1_split hi]
  rcases h with ⟨v, hv, h⟩ | ⟨he, h⟩
  · rw [m1_split hi] at h
    rcases h with ⟨u, hu, h⟩ | ⟨heu, h⟩
    · have hu' := hu.unput hsi h3
      refine .inl ⟨u, hu', ?_⟩
      rw [m1_split hj]
      exact .inl ⟨v, hv.put hsj h1, by rw [comm]; exact h⟩
    · rw [Eff.put h3] at heu
      refine .inr ⟨heu, ?_⟩
      rw [execOp_put oi hsi a oj.dst v h3] at h
      refine pNext_mono h (fun u w' hk => ?_)
      rw [m1_split hj]
      refine .inl ⟨v, ?_, by rw [comm]; exact hk⟩
      refine Still.put hsj (Still.world ?_ hv) h1
      intro hr
      rcases hcl with (hx | hx) | ⟨hx, _⟩
      · rw [heu.2] at hx; cases hx
      · rw [hr] at hx; cases hx
      · rw [heu.2] at hx; cases hx
  · obtain ⟨v0, w0, h0⟩ := pNext_ex h
    have hci : cls P oi.op ≠ .r := by
      intro hr
      rcases hcl with (hx | hx) | ⟨_, hx⟩
      · rw [hr] at hx; cases hx
      · rw [he.2] at hx; cases hx
      · rw [he.2] at hx; cases hx
    rw [m1_split hi] at h0
    rcases h0 with ⟨u, hu, h0⟩ | ⟨heu, h0⟩
    · have hu' := (hu.unput hsi h3).world hci (w' := w)
      refine .inl ⟨u, hu', ?_⟩
      rw [m1_split hj]
      refine .inr ⟨(Eff.put h1).2 he, ?_⟩
      rw [execOp_put oj hsj a oi.dst u h1]
      refine pNext_mono h (fun v w' hk => ?_)
      rw [m1_split hi] at hk
      rcases hk with ⟨u', hu2, hk⟩ | ⟨heu, hk⟩
      · have : u' = u := ((hu2.unput hsi h3).world hci (w' := w)).eq hu'
        subst this
        rw [comm]; exact hk
      · rw [Eff.put h3] at heu
        rcases hcl with (hx | hx) | ⟨hx, _⟩
        · rw [heu.2] at hx; cases hx
        · rw [he.2] at hx; cases hx
        · rw [heu.2] at hx; cases hx
    · rw [Eff.put h3] at heu
      rcases hcl with (hx | hx) | ⟨hx, _⟩
      · rw [heu.2] at hx; cases hx
      · rw [he.2] at hx; cases hx
      · rw [heu.2] at hx; cases hx

/-! the order -/
def bit (m i : Nat) : Bool := Nat.beq ((m >>> i) % 2) 1

def deps (o : Oper) : List Nat := o.after.toList.filterMap fun e => bif Region.binds .any e then some e.on else none

/-- M: for each operation, what must stand ahead of it. -/
def okOrder (P : Program) (ops : Array Oper) (M : List Nat) : Bool :=
  let l := ops.toList.zipIdx
  l.all fun (o, i) =>
    (match o.op with | .select .. => false | _ => true) &&
    (o.after.toList.all fun e => Nat.blt e.on ops.size && (match e.ground with | .gcOnly _ => true | _ => Nat.blt e.on i) && (match e.ground with | .textOnly _ => true | _ => Nat.blt (M.getD (ops.size + e.on) e.on) (M.getD (ops.size + i) i))) &&
    l.all fun (o', j) => bif bit (M.getD i 0) j then Nat.blt j i && (deps o).any fun d => Nat.beq d j || bit (M.getD d 0) j else (bif Nat.blt j i then compat P ops o o' else true)

structure Ordered (P : Program) (ops : Array Oper) (M : List Nat) : Prop where
  sel : ∀ (i : Nat) (o : Oper), ops[i]? = some o → ∀ cs b, o.op ≠ Op.select cs b
  on : ∀ (i : Nat) (o : Oper), ops[i]? = some o → ∀ e ∈ o.after, Region.binds .any e = true → e.on < i
  rank : ∀ (md : Region.Mode), ∃ rk : Nat → Nat, ∀ (i : Nat) (o : Oper), ops[i]? = some o → ∀ e ∈ o.after, Region.binds md e = true → rk e.on < rk i ∧ e.on < ops.size
  rel : ∀ (i j : Nat) (o o' : Oper), ops[i]? = some o → ops[j]? = some o' → bit (M.getD i 0) j = true → j < i ∧ ∃ d ∈ deps o, d = j ∨ bit (M.getD d 0) j = true
  com : ∀ (i j : Nat) (o o' : Oper), ops[i]? = some o → ops[j]? = some o' → j < i → bit (M.getD i 0) j = false → compat P ops o o' = true

theorem ordered_of {M : List Nat} (h : okOrder P ops M = true) : Ordered P ops M := by
  simp only [okOrder, List.all_eq_true] at h
  have key : ∀ (i : Nat) (o : Oper), ops[i]? = some o → (o, i) ∈ ops.toList.zipIdx := fun i o ho => by
    rw [List.mem_zipIdx_iff_getElem?]
    simpa using ho
  have edge : ∀ (i : Nat) (o : Oper), ops[i]? = some o → ∀ e ∈ o.after, Nat.blt e.on ops.size = true ∧ (match e.ground with | .gcOnly _ => true | _ => Nat.blt e.on i) = true ∧ (match e.ground with | .textOnly _ => true | _ => Nat.blt (M.getD (ops.size + e.on) e.on) (M.getD (ops.size + i) i)) = true := by
    intro i o ho e he
    have := h _ (key i o ho)
    simp only [Bool.and_eq_true, List.all_eq_true] at this
    have h1 := this.1.2 e (by simpa using he)
    exact ⟨h1.1.1, h1.1.2, h1.2⟩
  refine ⟨fun i o ho cs b he => ?_, fun i o ho e he hb => ?_, fun md => ?_, fun i j o o' ho ho' hb => ?_, fun i j o o' ho ho' hji hb => ?_⟩
  · have := h _ (key i o ho)
    simp [he] at this
  · have := (edge i o ho e he).2.1
    unfold Region.binds at hb
    cases hg : e.ground <;> rw [hg] at hb this <;> first | exact Nat.le_of_ble_eq_true this | cases hb
  · cases md with
    | gc =>
      refine ⟨fun i => M.getD (ops.size + i) i, fun i o ho e he hb => ?_⟩
      have := edge i o ho e he
      refine ⟨?_, Nat.le_of_ble_eq_true this.1⟩
      have h2 := this.2.2
      unfold Region.binds at hb
      cases hg : e.ground <;> rw [hg] at hb h2 <;> first | exact Nat.le_of_ble_eq_true h2 | cases hb
    | text =>
      refine ⟨fun i => i, fun i o ho e he hb => ?_⟩
      have := edge i o ho e he
      refine ⟨?_, Nat.le_of_ble_eq_true this.1⟩
      have h2 := this.2.1
      unfold Region.binds at hb
      cases hg : e.ground <;> rw [hg] at hb h2 <;> first | exact Nat.le_of_ble_eq_true h2 | cases hb
    | any =>
      refine ⟨fun i => i, fun i o ho e he hb => ?_⟩
      have := edge i o ho e he
      refine ⟨?_, Nat.le_of_ble_eq_true this.1⟩
      have h2 := this.2.1
      unfold Region.binds at hb
      cases hg : e.ground <;> rw [hg] at hb h2 <;> first | exact Nat.le_of_ble_eq_true h2 | cases hb
  · have := h _ (key i o ho)
    simp only [Bool.and_eq_true, List.all_eq_true] at this
    have h1 := this.2 _ (key j o' ho')
    simp only [hb, cond_true, Bool.and_eq_true, List.any_eq_true, Bool.or_eq_true] at h1
    obtain ⟨hlt, d, hd, h1⟩ := h1
    exact ⟨Nat.le_of_ble_eq_true hlt, d, hd, h1.imp Nat.eq_of_beq_eq_true id⟩
  · have := h _ (key i o ho)
    simp only [Bool.and_eq_true, List.all_eq_true] at this
    have h1 := this.2 _ (key j o' ho')
    have hb' : Nat.blt j i = true := Nat.ble_eq_true_of_le hji
    simp only [hb, hb', cond_true, cond_false] at h1
    exact h1

def unl (ops : Array Oper) (listed : Array Bool) : List Nat := (List.range ops.size).filter fun i => !listed.getD i true

variable {md : Region.Mode}

theorem binds_any {e : Edge} (h : Region.binds .any e = true) : Region.binds md e = true := by
  unfold Region.binds at *
  cases hg : e.ground <;> rw [hg] at h <;> first | rfl | (cases h)

theorem mem_deps {o : Oper} {d : Nat} : d ∈ deps o ↔ ∃ e ∈ o.after, Region.binds .any e = true ∧ e.on = d := by
  unfold deps
  rw [List.mem_filterMap]
  constructor
  · rintro ⟨e, he, h⟩
    cases hb : Region.binds .any e <;> simp [hb] at h
    exact ⟨e, by simpa using he, hb, h⟩
  · rintro ⟨e, he, hb, rfl⟩
    exact ⟨e, by simpa using he, by simp [hb]⟩

/-- All that i waits for is listed. -/
def Down (ops : Array Oper) (listed : Array Bool) : Prop := ∀ (i : Nat) (o : Oper), ops[i]? = some o → listed.getD i true = true → ∀ d ∈ deps o, listed.getD d false = true

theorem reach_listed {M : List Nat} (hM : Ordered P ops M) {listed : Array Bool} (hD : Down ops listed) (hsz : listed.size = ops.size) :
    ∀ (n i j : Nat) (o o' : Oper), i ≤ n → ops[i]? = some o → ops[j]? = some o' → (∀ d ∈ deps o, listed.getD d false = true) → bit (M.getD i 0) j = true → listed.getD j false = true := by
  intro n
  induction n with
  | zero =>
    intro i j o o' hi ho ho' hd hb
    have := (hM.rel i j o o' ho ho' hb).1
    omega
  | succ n ih =>
    intro i j o o' hi ho ho' hd hb
    obtain ⟨hlt, d, hdd, h⟩ := hM.rel i j o o' ho ho' hb
    have hl := hd _ hdd
    rcases h with rfl | h
    · exact hl
    · obtain ⟨e, he, hbe, rfl⟩ := mem_deps.1 hdd
      have hlt := hM.on i o ho e he hbe
      have hds : e.on < ops.size := by have := (Array.getElem?_eq_some_iff.1 ho).1; omega
      refine ih e.on j ops[e.on] o' (by omega) (Array.getElem?_eq_getElem hds) ho' ?_ h
      refine hD e.on ops[e.on] (Array.getElem?_eq_getElem hds) ?_
      have hs : e.on < listed.size := by omega
      simp [hs] at hl ⊢
      exact hl

/-- Operation i, told ahead of those of r1. -/
theorem mRun_bubble {i : Nat} {oi : Oper} (hi : ops[i]? = some oi) (hsi : ∀ cs b, oi.op ≠ .select cs b) {K : Act → World → Prop} : ∀ (r1 : List Nat),
    (∀ j ∈ r1, ∀ oj, ops[j]? = some oj → (∀ cs b, oj.op ≠ .select cs b) ∧ compat P ops oi oj = true) → ∀ (a : Act) (w : World), mRun P ops (r1 ++ [i]) K a w → mRun P ops (i :: r1) K a w := by
  intro r1
  induction r1 generalizing K with
  | nil => intro _ a w h; exact h
  | cons j r1 ih =>
    intro hc a w h
    simp only [List.cons_append, mRun] at h ⊢
    have h2 : m1 P ops j (m1 P ops i (mRun P ops r1 K)) a w := m1_mono h (fun a w h => ih (fun j hj => hc j (List.mem_cons_of_mem _ hj)) a w h)
    cases ho : ops[j]? with
    | none => 
      have e : ∀ K : Act → World → Prop, m1 P ops j K = K := fun K => by funext a w; unfold m1; rw [ho]
      rw [e] at h2 ⊢; exact h2
    | some oj =>
      have := hc j (List.mem_cons_self ..) oj ho
      exact m1_swap hi ho hsi this.1 this.2 h2

theorem unl_set {listed : Array Bool} (hsz : listed.size = ops.size) {i : Nat} (r1 r2 : List Nat) (h : unl ops listed = r1 ++ i :: r2) : unl ops (listed.setIfInBounds i true) = r1 ++ r2 := by
  have hn : (unl ops listed).Nodup := (List.nodup_range).filter _
  rw [h] at hn
  have hn' := List.nodup_append.1 hn
  have hi1 : i ∉ r1 := fun hm => (hn'.2.2 i hm i (List.mem_cons_self ..)) rfl
  have hi2 : i ∉ r2 := (List.nodup_cons.1 hn'.2.1).1
  have e : unl ops (listed.setIfInBounds i true) = (unl ops listed).filter fun j => j ≠ i := by
    unfold unl
    rw [List.filter_filter]
    refine List.filter_congr fun j hj => ?_
    have hjs : j < listed.size := by rw [hsz]; exact List.mem_range.1 hj
    by_cases hji : i = j
    · subst hji; simp [hjs]
    · rw [getD_set_ne true hji]; simp; omega
  rw [e, h, List.filter_append, List.filter_cons]
  simp only [ne_eq, not_true_eq_false, decide_false, Bool.false_eq_true, if_false]
  congr 1
  · exact List.filter_eq_self.2 fun j hj => by simp; exact fun e => hi1 (e ▸ hj)
  · exact List.filter_eq_self.2 fun j hj => by simp; exact fun e => hi2 (e ▸ hj)

theorem mAny {M : List Nat} (hM : Ordered P ops M) {Q : Exit → Act → World → Prop} : ∀ (fuel : Nat) (listed : Array Bool), listed.size = ops.size → Down ops listed → (unl ops listed).length = fuel →
    ∀ (a : Act) (w : World), mRun P ops (unl ops listed) (Q .normal) a w → wpAny P md ops Q fuel listed a w := by
  intro fuel
  induction fuel with
  | zero =>
    intro listed hsz hD hl a w h
    have he : unl ops listed = [] := List.eq_nil_of_length_eq_zero hl
    rw [he] at h
    refine ⟨?_, h⟩
    rw [List.eq_nil_iff_forall_not_mem]
    intro i hi
    obtain ⟨h0, o, ho, _⟩ := mem_ready.1 hi
    have : i ∈ unl ops listed := by
      unfold unl
      exact List.mem_filter.2 ⟨List.mem_range.2 (Array.getElem?_eq_some_iff.1 ho).1, by rw [h0]; rfl⟩
    rw [he] at this; cases this
  | succ fuel ih =>
    intro listed hsz hD hl a w h
    refine ⟨fun hr => ?_, fun i hi => ?_⟩
    · -- one of least rank is ready
      exfalso
      obtain ⟨rk, hrk⟩ := hM.rank md
      have hmin : ∀ (l : List Nat), l ≠ [] → ∃ i ∈ l, ∀ j ∈ l, rk i ≤ rk j := by
        intro l
        induction l with
        | nil => intro h; exact absurd rfl h
        | cons x l ihl =>
          intro _
          by_cases hl : l = []
          · subst hl; exact ⟨x, List.mem_cons_self .., fun j hj => by rcases List.mem_cons.1 hj with rfl | hj; exact Nat.le_refl _; cases hj⟩
          · obtain ⟨i, hi, hle⟩ := ihl hl
            by_cases hx : rk x ≤ rk i
            · exact ⟨x, List.mem_cons_self .., fun j hj => by rcases List.mem_cons.1 hj with rfl | hj; exact Nat.le_refl _; exact Nat.le_trans hx (hle j hj)⟩
            · exact ⟨i, List.mem_cons_of_mem _ hi, fun j hj => by rcases List.mem_cons.1 hj with rfl | hj; omega; exact hle j hj⟩
      obtain ⟨i, hi, hle⟩ := hmin (unl ops listed) (fun h => by rw [h] at hl; cases hl)
      have hin : i < ops.size := List.mem_range.1 (List.mem_filter.1 hi).1
      have hil : listed.getD i true = false := by have := (List.mem_filter.1 hi).2; simpa using this
      have : i ∈ Region.ready md ops listed := mem_ready.2 ⟨hil, ops[i], Array.getElem?_eq_getElem hin, fun e he hb => by
        obtain ⟨hlt, hs⟩ := hrk i _ (Array.getElem?_eq_getElem hin) e he hb
        have hs' : e.on < listed.size := by omega
        cases hle' : listed.getD e.on true with
        | true => simp [hs'] at hle' ⊢; exact hle'
        | false =>
          have hm : e.on ∈ unl ops listed := List.mem_filter.2 ⟨List.mem_range.2 hs, by rw [hle']; rfl⟩
          have := hle _ hm
          omega⟩
      rw [hr] at this; cases this
    · obtain ⟨h0, o, ho, hdep⟩ := mem_ready.1 hi
      have hin := (Array.getElem?_eq_some_iff.1 ho).1
      have hm : i ∈ unl ops listed := List.mem_filter.2 ⟨List.mem_range.2 hin, by rw [h0]; rfl⟩
      obtain ⟨r1, r2, hr⟩ := List.append_of_mem hm
      have hset := unl_set hsz r1 r2 hr
      have hdl : ∀ d ∈ deps o, listed.getD d false = true := fun d hd => by
        obtain ⟨e, he, hb, rfl⟩ := mem_deps.1 hd
        exact hdep e he (binds_any hb)
      have hcomp : ∀ j ∈ r1, ∀ oj, ops[j]? = some oj → (∀ cs b, oj.op ≠ .select cs b) ∧ compat P ops o oj = true := by
        intro j hj oj hoj
        refine ⟨hM.sel j oj hoj, ?_⟩
        have hjm : j ∈ unl ops listed := by rw [hr]; exact List.mem_append_left _ hj
        have hs : (unl ops listed).Pairwise (· < ·) := (List.pairwise_lt_range).filter _
        rw [hr] at hs
        have hji : j < i := (List.pairwise_append.1 hs).2.2 j hj i (List.mem_cons_self ..)
        refine hM.com i j o oj ho hoj hji ?_
        cases hb : bit (M.getD i 0) j with
        | false => rfl
        | true =>
          have hlj := reach_listed hM hD hsz i i j o oj (Nat.le_refl _) ho hoj hdl hb
          have hul : listed.getD j true = false := by have := (List.mem_filter.1 hjm).2; simpa using this
          have hjs : j < listed.size := by omega
          simp [hjs] at hlj hul
          rw [hlj] at hul; cases hul
      rw [hr, show r1 ++ i :: r2 = (r1 ++ [i]) ++ r2 by simp, mRun_append] at h
      have h2 := mRun_bubble ho (hM.sel i o ho) r1 hcomp a w h
      simp only [mRun] at h2
      refine m1_wpOp (m1_mono h2 (fun a w h3 => ?_))
      rw [← mRun_append, ← hset] at h3
      refine ih _ (by simp [hsz]) ?_ ?_ a w h3
      · intro k ok hk hkl d hd
        by_cases hki : i = k
        · subst hki
          rw [ho] at hk; cases hk
          exact getD_set_true (hdl d hd)
        · rw [getD_set_ne true hki] at hkl
          exact getD_set_true (hD k ok hk hkl d hd)
      · rw [hset]
        rw [hr] at hl
        simp at hl ⊢; omega

theorem region_draw {M : List Nat} (hM : okOrder P ops M = true) {id : Nat} {Q : Exit → Act → World → Prop} {a : Act}
    (h : mRun P ops (List.range ops.size) (Q .normal) a { w with drawn := w.drawn + 1 }) : (Code.region id ops true).wp P Q a w := by
  have hu : unl ops (Array.replicate ops.size false) = List.range ops.size := by
    unfold unl
    refine List.filter_eq_self.2 fun i hi => ?_
    have := List.mem_range.1 hi
    simp [this]
  have hall : ∀ md, wpAny P md ops Q ops.size (Array.replicate ops.size false) a { w with drawn := w.drawn + 1 } := fun md =>
    mAny (md := md) (ordered_of hM) ops.size _ (by simp) (fun i o ho hl => by
      have := (Array.getElem?_eq_some_iff.1 ho).1
      simp [this] at hl) (by rw [hu]; simp) a _ (by rw [hu]; exact h)
  refine wp_region_draw fun t => ?_
  unfold Region.schedule
  split
  · exact wpAny_sound _ _ _ _ _ (hall _)
  · split <;> exact wpAny_sound _ _ _ _ _ (hall _)

theorem region_text {id : Nat} {Q : Exit → Act → World → Prop} {a : Act} (h : mRun P ops (List.range ops.size) (Q .normal) a w) : (Code.region id ops false).wp P Q a w := by
  refine wp_region ?_
  generalize List.range ops.size = l at h
  induction l generalizing a w with
  | nil => exact h
  | cons i r ih =>
    rw [wpOps_cons]
    exact m1_wpOp (m1_mono h (fun a w h => ih h))
end
end Go.Bk
