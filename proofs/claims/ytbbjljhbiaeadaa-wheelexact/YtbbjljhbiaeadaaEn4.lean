/- The engine, part 4: segments of a region ('&&', '||'), code, a function's body: 'vcFun' and that it is sound. -/
import Derived.Test.YtbbjljhbiaeadaaEn3k
set_option linter.unusedSimpArgs false
set_option linter.unusedVariables false
namespace Go.Bk

/-- How a region's operations are gone through: one by one; 'sc b inner r': those of inner only where the test before them is b, then a 'pick'. -/
inductive Sg
  | nil
  | one (r : Sg)
  | sc (b : Bool) (inner : Sg) (r : Sg)
  | onek (rs : List Nat) (r : Sg)

def Sg.len : Sg → Nat
  | .nil => 0
  | .one r => r.len + 1
  | .sc _ inner r => inner.len + 1 + r.len
  | .onek _ r => r.len + 1

/-- Each operation's place, and the loads that it must keep. -/
def Sg.tag : Sg → List (Oper × Nat) → List (Nat × List Nat)
  | .nil, _ => []
  | .one r, l => match l with | [] => [] | (_, i) :: l => (i, []) :: r.tag l
  | .onek rs r, l => match l with | [] => [] | (_, i) :: l => (i, rs) :: r.tag l
  | .sc _ inner r, l => inner.tag l ++ (match l.drop inner.len with | [] => [] | (_, i) :: rest => (i, []) :: r.tag rest)

/-- The loads rs, as what they read. -/
def keepL (P : Program) (ops : Array Oper) (e : Env) : List Nat → Option (List (Bool × Nat × Value))
  | [] => some []
  | r :: rs =>
    match ops[r]? with
    | none => none
    | some o =>
      match o.op with
      | .load t x =>
        match P.underlying t, P.info? t with
        | some _, some i => bif e.knows1 x then (keepL P ops e rs).map fun l => (aggT P t, i.size, e.ev x) :: l else none
        | _, _ => none
      | _ => none

def keeps : List (Bool × Nat × Value) → World → World → Prop
  | [], _, _ => True
  | (g, s, p) :: r, w, w' => (∃ v, ldV g s w p = some v ∧ ldV g s w' p = some v) ∧ keeps r w w'
def pKept (l : List (Bool × Nat × Value)) (w : World) (A : (Value → World → Prop) → Prop) (R : Value → World → Prop) : Prop := A fun v w' => keeps l w w' ∧ R v w'

def dstsOf : List (Oper × Nat) → List Nat
  | [] => []
  | (o, _) :: r => match o.dst with | some d => d :: dstsOf r | none => dstsOf r

def gmem (G : List (Nat × Bool × Nat)) (j : Nat) (b : Bool) : Bool := G.any fun g => Nat.beq g.1 j && (g.2.1 == b)
def gslots (G : List (Nat × Bool × Nat)) : List Nat := G.map (·.2.2)

def okG (G : List (Nat × Bool × Nat)) (o : Oper) : Bool :=
  (match o.guard with | none => true | some (j, b) => gmem G j b) && (match o.dst with | some d => !(mem d (gslots G)) | none => true)

def scX (b : Bool) (o : Op) : Option (Nat × Operand) :=
  match b, o with
  | true, .pick (.tmp s) x (.const (.bool false)) => some (s, x)
  | false, .pick (.tmp s) (.const (.bool true)) x => some (s, x)
  | _, _ => none

def skipOK (j : Nat) (b : Bool) (s : Nat) (Gs : List Nat) : List (Oper × Nat) → List Nat → Bool
  | [], _ => true
  | (o, i) :: r, dead =>
    (match o.guard with | some (h, wt) => (Nat.beq h j && (wt == b)) || mem h dead | none => false) &&
    (match o.dst with | some d => !(Nat.beq d s) && !(mem d Gs) | none => true) && skipOK j b s Gs r (i :: dead)

def headGuard : List (Oper × Nat) → Option (Nat × Bool)
  | (o, _) :: _ => o.guard
  | [] => none

def pSC (b : Bool) (c : Value) (w : World) (A : (Value → World → Prop) → Prop) (R : Value → World → Prop) : Prop :=
  (∃ t, c = .bool t) ∧ ∃ J : Value → World → Prop, (c = .bool b → A J) ∧ (c = .bool (!b) → J (.bool (!b)) w) ∧ ∀ v w', J v w' → R v w'

def vcS (P : Program) (ops : Array Oper) : Sg → List (Nat × Bool × Nat) → List (Oper × Nat) → Env → World → (Env → World → Prop) → Prop
  | .nil, _, _, e, w, k => k e w
  | .one r, G, l, e, w, k =>
    match l with
    | [] => False
    | (o, _) :: l => bif okG G o && e.knows (opnds o.op) then vcOp P o.op o.type e.ev w (fun v w' => vcS P ops r G l (e.put o.dst v) w' k) else False
  | .onek rs r, G, l, e, w, k =>
    match l with
    | [] => False
    | (o, _) :: l => bif okG G o && e.knows (opnds o.op) then
        (match keepL P ops e rs with
         | some ps => pKept ps w (fun J => vcOp P o.op o.type e.ev w J) (fun v w' => vcS P ops r G l (e.put o.dst v) w' k)
         | none => False) else False
  | .sc b inner r, G, l, e, w, k =>
    match l.drop inner.len with
    | [] => False
    | (pk, _) :: rest =>
      match scX b pk.op, headGuard l with
      | some (s, x), some (j, b') =>
        bif (b' == b) && okG G pk && e.knows1 (.tmp s) && Option.isEqSome ((ops[j]?).bind (·.dst)) s && skipOK j b s (gslots G) (l.take inner.len) [] && !(mem s (dstsOf (l.take inner.len))) then
          pSC b (e.ev (.tmp s)) w (fun J => vcS P ops inner ((j, b, s) :: G) l e w (fun e' w' => bif e'.knows1 x then J (e'.ev x) w' else False))
            (fun v w' => vcS P ops r G rest ((Env.cut (dstsOf (l.take inner.len)) e).put pk.dst v) w' k)
        else False
      | _, _ => False

/-- What a code writes. -/
def writes : Code → List Nat
  | .region _ ops _ => dstsOf (ops.toList.zipIdx)
  | .seq a b => writes a ++ writes b
  | .cond _ a b => writes a ++ writes b
  | .block _ c | .loop c | .scope c => writes c
  | _ => []

inductive An
  | leaf
  | reg (M : List Nat) (s : Sg)
  | regp (pi : List Nat) (M : List Nat) (s : Sg)
  | seq (a b : An)
  | join (S : List Nat) (a b : An)
  | cond (a b : An)
  | blk (a : An)
  | blkJ (S : List Nat) (a : An)
  | loop (S : List Nat) (a : An)

def nth (vs : List Value) (i : Nat) : Value := vs.getD i undef

def Env.sets : List Nat → Nat → List Value → Env → Env
  | [], _, _, e => e
  | s :: S, i, vs, e => .set s (nth vs i) (Env.sets S (i + 1) vs e)

def Env.vals (e : Env) (S : List Nat) : List Value := S.map fun s => e.ev (.tmp s)
def Env.knowsT (e : Env) (S : List Nat) : Bool := S.all fun s => e.knows1 (.tmp s)

def pIf (c : Value) (A B : Prop) : Prop := (∃ t, c = .bool t) ∧ (c = .bool true → A) ∧ (c = .bool false → B)
def pJoin (A : (List Value → World → Prop) → Prop) (R : List Value → World → Prop) : Prop := ∃ J, A J ∧ ∀ vs w, J vs w → R vs w
def pLoop (init : List Value) (w : World) (body : (List Value → World → Prop) → List Value → World → Prop) : Prop :=
  ∃ (I : Nat → List Value → World → Prop) (n : Nat), I n init w ∧ ∀ n vs w, I n vs w → body (fun vs' w' => ∃ m, m < n ∧ I m vs' w') vs w
def pDraw (w : World) (K : World → Prop) : Prop := K { w with drawn := w.drawn + 1 }

def kfind (ks : List (Nat × (Env → World → Prop))) (id : Nat) : Option (Env → World → Prop) :=
  match ks with
  | [] => none
  | (i, k) :: r => bif Nat.beq i id then some k else kfind r id

def nodupT (l : List Nat) : Bool := match l with | [] => true | a :: r => !(mem a r) && nodupT r

/-- The operations in another order. -/
def pick (ops : Array Oper) : List Nat → List (Oper × Nat)
  | [] => []
  | i :: r => match ops[i]? with | some o => (o, i) :: pick ops r | none => pick ops r

def vc (P : Program) : An → Code → (Env → World → Prop) → List (Nat × (Env → World → Prop)) → (Env → World → Prop) → Env → World → Prop
  | .leaf, c, k, ks, kr, e, w =>
    match c with
    | .skip => k e w
    | .exit id => match kfind ks id with | some kk => kk e w | none => False
    | .ret => kr e w
    | _ => False
  | .reg M s, c, k, _, _, e, w =>
    match c with
    | .region _ ops draw =>
      bif Nat.beq s.len ops.size then
        bif draw then bif okOrder P ops M then pDraw w fun w => vcS P ops s [] (ops.toList.zipIdx) e w k else False
        else vcS P ops s [] (ops.toList.zipIdx) e w k
      else False
    | _ => False
  | .regp pi M s, c, k, _, _, e, w =>
    match c with
    | .region _ ops draw =>
      bif Nat.beq s.len pi.length && (pi.all fun i => Nat.blt i ops.size) && draw && okOrderK P ops M (s.tag (pick ops pi)) then
        pDraw w fun w => vcS P ops s [] (pick ops pi) e w k
      else False
    | _ => False
  | .seq a b, c, k, ks, kr, e, w => match c with | .seq x y => vc P a x (fun e w => vc P b y k ks kr e w) ks kr e w | _ => False
  | .join S a b, c, k, ks, kr, e, w =>
    match c with
    | .seq x y => bif nodupT S then
        pJoin (fun J => vc P a x (fun e w => bif e.knowsT S then J (e.vals S) w else False) ks kr e w) (fun vs w => vc P b y k ks kr (Env.sets S 0 vs (.cut (writes x) e)) w)
        else False
    | _ => False
  | .cond a b, c, k, ks, kr, e, w => match c with | .cond c x y => bif e.knows1 c then pIf (e.ev c) (vc P a x k ks kr e w) (vc P b y k ks kr e w) else False | _ => False
  | .blk a, c, k, ks, kr, e, w => match c with | .block id x => vc P a x k ((id, k) :: ks) kr e w | _ => False
  | .blkJ S a, c, k, ks, kr, e, w =>
    match c with
    | .block id x => bif nodupT S then
        pJoin (fun J => vc P a x (fun e w => bif e.knowsT S then J (e.vals S) w else False) ((id, fun e w => bif e.knowsT S then J (e.vals S) w else False) :: ks) kr e w)
          (fun vs w => k (Env.sets S 0 vs (.cut (writes x) e)) w)
        else False
    | _ => False
  | .loop S a, c, _, ks, kr, e, w =>
    match c with
    | .loop x => bif nodupT S && e.knowsT S then
        pLoop (e.vals S) w (fun cont vs w => vc P a x (fun e w => bif e.knowsT S then cont (e.vals S) w else False) ks kr (Env.sets S 0 vs (.cut (writes x) e)) w)
        else False
    | _ => False

def vcRes (P : Program) (e : Env) (w : World) (K : Value → World → Prop) : List ResultVar → List Value → Prop
  | [], acc => K (match acc with | [v] => v | vs => .tuple vs.toArray) w
  | .tmp t :: r, acc => bif e.knows1 (.tmp t) then vcRes P e w K r (acc ++ [e.ev (.tmp t)]) else False
  | .cell a t :: r, acc => bif e.knows1 (.tmp a) then (match P.info? t, P.underlying t with | some i, some _ => pV (ldV (aggT P t) i.size w (e.ev (.tmp a))) fun v => vcRes P e w K r (acc ++ [v]) | _, _ => False) else False

def range0 : Nat → Nat → List Nat
  | _, 0 => []
  | i, n + 1 => i :: range0 (i + 1) n

def vcFun (P : Program) (an : An) (c : Code) (res : List ResultVar) (np : Nat) (args : List Value) (w : World) (K : Value → World → Prop) : Prop :=
  vc P an c (fun e w => vcRes P e w K res []) [] (fun e w => vcRes P e w K res []) (Env.sets (range0 0 np) 0 args .nil) w

/-! soundness -/
section
variable {P : Program} {ops : Array Oper} {n : Nat}

theorem sayOp_congr {o : Oper} {ρ ρ' : Operand → Value} {w : World} {K : Value → World → Prop} (he : execOp ρ o = execOp ρ' o) (h : sayOp P o ρ' w K) : sayOp P o ρ w K := by
  unfold sayOp dryOp lookOp at *
  rw [he]; exact h

theorem mem_dstsOf {l : List (Oper × Nat)} {t : Nat} : t ∈ dstsOf l ↔ ∃ p ∈ l, p.1.dst = some t := by
  induction l with
  | nil => simp [dstsOf]
  | cons p r ih =>
    obtain ⟨o, i⟩ := p
    cases hd : o.dst with
    | none => simp [dstsOf, hd, ih]
    | some d => simp [dstsOf, hd, ih, eq_comm]

/-- Slots outside of what is written stay. -/
def Stays (l : List Nat) (a a' : Act) : Prop := a'.defers = a.defers ∧ a'.tmps.size = a.tmps.size ∧ ∀ t, t ∉ l → a'.tmps[t]? = a.tmps[t]?

theorem Stays.refl (l : List Nat) (a : Act) : Stays l a a := ⟨rfl, rfl, fun _ _ => rfl⟩
theorem Stays.trans {l l1 l2 : List Nat} {a a1 a2 : Act} (h : Stays l1 a a1) (k : Stays l2 a1 a2) (hl : ∀ t, t ∈ l1 ∨ t ∈ l2 → t ∈ l) : Stays l a a2 :=
  ⟨k.1.trans h.1, k.2.1.trans h.2.1, fun t ht => (k.2.2 t (fun h => ht (hl t (.inr h)))).trans (h.2.2 t (fun h => ht (hl t (.inl h))))⟩
theorem Stays.put {l : List Nat} {a : Act} {d : Option Tmp} (h : ∀ t, d = some t → t ∈ l) (v : Value) : Stays l a (a.put d v) := by
  cases d with
  | none => exact Stays.refl _ _
  | some t =>
    refine ⟨rfl, by simp [Act.put], fun s hs => ?_⟩
    have : t ≠ s := fun e => hs (e ▸ h t rfl)
    simp [Act.put, Array.getElem?_setIfInBounds_ne this]

theorem mRun_frame : ∀ (l : List (Oper × Nat)), (∀ p ∈ l, ops[p.2]? = some p.1) → ∀ {K : Act → World → Prop} {a : Act} {w : World}, mRun P ops (l.map (·.2)) K a w →
    mRun P ops (l.map (·.2)) (fun a' w' => K a' w' ∧ Stays (dstsOf l) a a') a w := by
  intro l
  induction l with
  | nil => intro _ K a w h; exact ⟨h, Stays.refl _ _⟩
  | cons p r ih =>
    intro hl K a w h
    obtain ⟨o, i⟩ := p
    have ho : ops[i]? = some o := hl (o, i) (List.mem_cons_self ..)
    simp only [List.map_cons, mRun] at h ⊢
    have step : ∀ v w', mRun P ops (r.map (·.2)) K (a.put o.dst v) w' → mRun P ops (r.map (·.2)) (fun a' w' => K a' w' ∧ Stays (dstsOf ((o, i) :: r)) a a') (a.put o.dst v) w' := fun v w' h =>
      mRun_mono (ih (fun p hp => hl p (List.mem_cons_of_mem _ hp)) h) (fun a' w'' hk => ⟨hk.1, (Stays.put (l := dstsOf ((o, i) :: r)) (fun t ht => mem_dstsOf.2 ⟨(o, i), List.mem_cons_self .., ht⟩) v).trans hk.2 (fun t ht => ht.elim id (fun h => by
        obtain ⟨p, hp, hd⟩ := mem_dstsOf.1 h
        exact mem_dstsOf.2 ⟨p, List.mem_cons_of_mem _ hp, hd⟩))⟩)
    unfold m1 at h ⊢
    rw [ho] at h ⊢
    simp only at h ⊢
    split
    · rename_i hw; rw [if_pos hw] at h; exact sayOp_mono h (fun v w' hv => step v w' hv)
    · rename_i hw; rw [if_neg hw] at h; exact step _ _ h

theorem mRunK_frame : ∀ (l : List (Oper × Nat)), (∀ p ∈ l, ops[p.2]? = some p.1) → ∀ (L : List (Nat × List Nat)), names L = l.map (·.2) → ∀ {K : Act → World → Prop} {a : Act} {w : World}, mRunK P ops L K a w →
    mRunK P ops L (fun a' w' => K a' w' ∧ Stays (dstsOf l) a a') a w := by
  intro l
  induction l with
  | nil =>
    intro _ L hL K a w h
    cases L with
    | nil => exact ⟨h, Stays.refl _ _⟩
    | cons _ _ => simp [names] at hL
  | cons p r ih =>
    intro hl L hL K a w h
    obtain ⟨o, i⟩ := p
    cases L with
    | nil => simp [names] at hL
    | cons q L =>
      obtain ⟨i', rs⟩ := q
      simp only [names, List.map_cons, List.cons.injEq] at hL
      obtain ⟨rfl, hL⟩ := hL
      have ho : ops[i']? = some o := hl (o, i') (List.mem_cons_self ..)
      simp only [mRunK] at h ⊢
      have step : ∀ v w', mRunK P ops L K (a.put o.dst v) w' → mRunK P ops L (fun a' w' => K a' w' ∧ Stays (dstsOf ((o, i') :: r)) a a') (a.put o.dst v) w' := fun v w' h =>
        mRunK_mono (ih (fun p hp => hl p (List.mem_cons_of_mem _ hp)) L hL h) (fun a' w'' hk => ⟨hk.1, (Stays.put (l := dstsOf ((o, i') :: r)) (fun t ht => mem_dstsOf.2 ⟨(o, i'), List.mem_cons_self .., ht⟩) v).trans hk.2 (fun t ht => ht.elim id (fun h => by
          obtain ⟨p, hp, hd⟩ := mem_dstsOf.1 h
          exact mem_dstsOf.2 ⟨p, List.mem_cons_of_mem _ hp, hd⟩))⟩)
      unfold m1k at h ⊢
      rw [ho] at h ⊢
      simp only at h ⊢
      split
      · rename_i hw; rw [if_pos hw] at h; exact sayOp_mono h (fun v w' hv => ⟨hv.1, step v w' hv.2⟩)
      · rename_i hw; rw [if_neg hw] at h; exact step _ _ h

theorem mRunK_mRun : ∀ (L : List (Nat × List Nat)) {K : Act → World → Prop} {a : Act} {w : World}, mRunK P ops L K a w → mRun P ops (names L) K a w
  | [], K, a, w, h => h
  | (i, rs) :: L, K, a, w, h => m1_mono (m1k_m1 h) (fun a w h => mRunK_mRun L h)

def GOk (ops : Array Oper) (a : Act) (G : List (Nat × Bool × Nat)) : Prop := ∀ g ∈ G, (ops[g.1]?).bind (·.dst) = some g.2.2 ∧ a.tmps[g.2.2]? = some (.bool g.2.1)

theorem GOk.stays {a a' : Act} {G : List (Nat × Bool × Nat)} {l : List Nat} (h : GOk ops a G) (hs : Stays l a a') (hl : ∀ t ∈ l, t ∉ gslots G) : GOk ops a' G :=
  fun g hg => ⟨(h g hg).1, (hs.2.2 _ (fun hm => hl _ hm (List.mem_map.2 ⟨g, hg, rfl⟩))).trans (h g hg).2⟩

theorem okG_wanted {G : List (Nat × Bool × Nat)} {o : Oper} {a : Act} (h : okG G o = true) (hG : GOk ops a G) : Region.wanted o (yielded ops a.tmps) = true := by
  unfold Region.wanted
  simp only [okG, Bool.and_eq_true] at h
  cases hg : o.guard with
  | none => rfl
  | some jb =>
    obtain ⟨j, b⟩ := jb
    have h1 := h.1
    simp only [hg, gmem, List.any_eq_true, Bool.and_eq_true] at h1
    obtain ⟨g, hgm, hj, hb⟩ := h1
    have hj := Nat.eq_of_beq_eq_true hj
    have hb : g.2.1 = b := by simpa using hb
    obtain ⟨hd, ht⟩ := hG g hgm
    have : yielded ops a.tmps j = some b := by
      unfold yielded
      rw [← hj, hd]
      simp only [Option.bind_some, ht, hb]
    simp [this]

theorem okG_dst {G : List (Nat × Bool × Nat)} {o : Oper} (h : okG G o = true) : ∀ t, o.dst = some t → t ∉ gslots G := by
  intro t ht hm
  simp only [okG, Bool.and_eq_true, ht] at h
  have := h.2
  rw [mem_iff.2 hm] at this
  cases this

theorem run_skip {j : Nat} {b : Bool} {s : Nat} {Gs : List Nat} (hj : (ops[j]?).bind (·.dst) = some s) : ∀ (l : List (Oper × Nat)) (dead : List Nat) (a : Act) (w : World), (∀ p ∈ l, ops[p.2]? = some p.1) →
    skipOK j b s Gs l dead = true → (∀ h ∈ dead, yielded ops a.tmps h = none) → a.tmps[s]? = some (.bool (!b)) →
    ∀ L : List (Nat × List Nat), names L = l.map (·.2) → mRunK P ops L (fun a' w' => w' = w ∧ Stays (dstsOf l) a a') a w := by
  intro l
  induction l with
  | nil =>
    intro dead a w _ _ _ _ L hL
    cases L with
    | nil => exact ⟨rfl, Stays.refl _ _⟩
    | cons _ _ => simp [names] at hL
  | cons p r ih =>
    intro dead a w hl hs hd ht L0 hL0
    obtain ⟨o, i0⟩ := p
    obtain ⟨i, rs, L, rfl, hL, rfl⟩ : ∃ i rs L, L0 = (i, rs) :: L ∧ names L = r.map (·.2) ∧ i = i0 := by
      cases L0 with
      | nil => simp [names] at hL0
      | cons q L =>
        simp only [names, List.map_cons, List.cons.injEq] at hL0
        exact ⟨q.1, q.2, L, rfl, hL0.2, hL0.1⟩
    have ho : ops[i]? = some o := hl (o, i) (List.mem_cons_self ..)
    simp only [skipOK, Bool.and_eq_true] at hs
    obtain ⟨⟨hg, hdst⟩, hrest⟩ := hs
    have hw : Region.wanted o (yielded ops a.tmps) = false := by
      unfold Region.wanted
      cases hgd : o.guard with
      | none => rw [hgd] at hg; cases hg
      | some x =>
        obtain ⟨h, wt⟩ := x
        simp only [hgd, Bool.or_eq_true, Bool.and_eq_true] at hg
        rcases hg with ⟨h1, h2⟩ | h1
        · have h1 := Nat.eq_of_beq_eq_true h1
          have h2 : wt = b := by simpa using h2
          have : yielded ops a.tmps h = some (!b) := by
            unfold yielded; rw [h1, hj]; simp only [Option.bind_some, ht]
          simp only [this, h2]
          cases b <;> rfl
        · show (yielded ops a.tmps h == some wt) = false
          rw [hd h (mem_iff.1 h1)]; rfl
    simp only [mRunK]
    unfold m1k
    rw [ho]
    simp only [hw, Bool.false_eq_true, if_false]
    have hds : ∀ t, o.dst = some t → t ≠ s := fun t hto he => by
      subst he
      rw [hto] at hdst
      simp only [Bool.and_eq_true] at hdst
      have := hdst.1
      simp at this
    have hput := Stays.put (l := dstsOf ((o, i) :: r)) (a := a) (d := o.dst) (fun t ht => mem_dstsOf.2 ⟨(o, i), List.mem_cons_self .., ht⟩) undef
    refine mRunK_mono (ih (i :: dead) (a.put o.dst undef) w (fun p hp => hl p (List.mem_cons_of_mem _ hp)) hrest ?_ ?_ L hL) (fun a' w' hk => ⟨hk.1, hput.trans hk.2 (fun t ht => ht.elim id (fun h => by
        obtain ⟨p, hp, hd⟩ := mem_dstsOf.1 h
        exact mem_dstsOf.2 ⟨p, List.mem_cons_of_mem _ hp, hd⟩))⟩)
    · intro h hh
      unfold yielded
      cases hsl : (ops[h]?).bind (·.dst) with
      | none => rfl
      | some t =>
        simp only [Option.bind_some]
        by_cases hto : o.dst = some t
        · rw [hto]
          by_cases hlt : t < a.tmps.size
          · simp [Act.put, hlt, undef]
          · simp [Act.put, hlt]
        · have hsame : (a.put o.dst undef).tmps[t]? = a.tmps[t]? := by
            cases hod : o.dst with
            | none => rfl
            | some u =>
              have : u ≠ t := fun e => hto (by rw [hod, e])
              simp [Act.put, Array.getElem?_setIfInBounds_ne this]
          rw [hsame]
          rcases List.mem_cons.1 hh with rfl | hh
          · rw [ho] at hsl
            exact absurd hsl hto
          · have := hd h hh
            unfold yielded at this
            rw [hsl] at this
            simpa only [Option.bind_some] using this
    · cases hod : o.dst with
      | none => exact ht
      | some u =>
        have : u ≠ s := hds u hod
        simp only [Act.put, Array.getElem?_setIfInBounds_ne this]
        exact ht

theorem isEqSome_iff {x : Option Nat} {s : Nat} (h : Option.isEqSome x s = true) : x = some s := by
  cases x with
  | none => cases h
  | some y => simp only [Option.isEqSome, beq_iff_eq] at h; rw [h]

theorem tag_names : ∀ (sg : Sg) (l : List (Oper × Nat)), sg.len ≤ l.length → names (sg.tag l) = (l.take sg.len).map (·.2) := by
  intro sg
  induction sg with
  | nil => intro l _; rfl
  | one r ih =>
    intro l hl
    cases l with
    | nil => simp [Sg.len] at hl
    | cons p l =>
      simp only [Sg.len, List.length_cons] at hl
      simp only [Sg.tag, Sg.len, names, List.map_cons, List.take_succ_cons]
      rw [← ih l (by omega)]
      rfl
  | onek rs r ih =>
    intro l hl
    cases l with
    | nil => simp [Sg.len] at hl
    | cons p l =>
      simp only [Sg.len, List.length_cons] at hl
      simp only [Sg.tag, Sg.len, names, List.map_cons, List.take_succ_cons]
      rw [← ih l (by omega)]
      rfl
  | sc b inner r ihi ihr =>
    intro l hl
    simp only [Sg.len] at hl
    cases hd : l.drop inner.len with
    | nil =>
      have := congrArg List.length hd
      simp at this
      omega
    | cons p rest =>
      have hlen : l.length = inner.len + 1 + rest.length := by
        have := congrArg List.length hd
        simp only [List.length_drop, List.length_cons] at this
        omega
      have htake : l.take (Sg.sc b inner r).len = l.take inner.len ++ p :: rest.take r.len := by
        simp only [Sg.len]
        rw [show inner.len + 1 + r.len = inner.len + (1 + r.len) by omega, List.take_add, hd, Nat.add_comm 1, List.take_succ_cons]
      rw [htake, List.map_append, ← ihi l (by omega), List.map_cons, ← ihr rest (by omega)]
      simp only [Sg.tag, hd, names, List.map_append, List.map_cons]

theorem keepL_keep {a : Act} {e : Env} {w w' : World} (hA : Ag n a e) : ∀ (rs : List Nat) (ps : List (Bool × Nat × Value)), keepL P ops e rs = some ps → keeps ps w w' → Keep P ops rs a w w'
  | [], ps, h, hk => fun r hr => by cases hr
  | r0 :: rs, ps, h, hk => by
    simp only [keepL] at h
    cases ho : ops[r0]? with
    | none => rw [ho] at h; cases h
    | some o =>
      rw [ho] at h
      simp only at h
      cases hop : o.op <;> rw [hop] at h <;> try cases h
      rename_i t x
      simp only at h
      cases hd : P.underlying t with
      | none => rw [hd] at h; cases h
      | some d =>
        cases hi : P.info? t with
        | none => rw [hd, hi] at h; cases h
        | some i =>
          rw [hd, hi] at h
          cases hkn : e.knows1 x <;> simp only [hkn, cond_true, cond_false] at h
          · cases h
          · cases hr : keepL P ops e rs with
            | none => rw [hr] at h; cases h
            | some l =>
              rw [hr] at h
              simp only [Option.map_some, Option.some.injEq] at h
              subst h
              obtain ⟨⟨v, hv, hv'⟩, hk⟩ := hk
              have ih := keepL_keep hA rs l hr hk
              intro r hm o' ho'
              rcases List.mem_cons.1 hm with rfl | hm
              · rw [ho] at ho'
                cases ho'
                have hx : a.eval x = e.ev x := hA.eval hkn
                have he : execOp a.eval o = (do pure (Next.value (← Instr.loadAt t (a.eval x)))) := by unfold execOp; rw [hop]
                have one : ∀ W, ldV (aggT P t) i.size W (e.ev x) = some v → lookOp P W o a.eval = some v := fun W h => by
                  unfold lookOp
                  rw [he, hx, lookV (look_ld hd hi h)]
                rw [one w' hv', one w hv]
              · exact ih r hm o' ho'

theorem vcS_runK : ∀ (sg : Sg) (G : List (Nat × Bool × Nat)) (l : List (Oper × Nat)) (a : Act) (e : Env) (w : World) (k : Env → World → Prop), Ag n a e → GOk ops a G →
    (∀ p ∈ l, ops[p.2]? = some p.1) → (∀ p ∈ l, ∀ t, p.1.dst = some t → t < n) → sg.len ≤ l.length → vcS P ops sg G l e w k →
    mRunK P ops (sg.tag l) (fun a' w' => ∃ e', Ag n a' e' ∧ k e' w') a w := by
  intro sg
  induction sg with
  | nil => intro G l a e w k hA _ _ _ _ h; exact ⟨e, hA, h⟩
  | one r ih =>
    intro G l a e w k hA hG hl hn hlen h
    cases l with
    | nil => exact h.elim
    | cons p l =>
      obtain ⟨o, i⟩ := p
      have ho : ops[i]? = some o := hl (o, i) (List.mem_cons_self ..)
      simp only [vcS] at h
      cases hc : (okG G o && e.knows (opnds o.op)) <;> simp only [hc, cond_true, cond_false] at h
      simp only [Bool.and_eq_true] at hc
      have hsel : ∀ cs b, o.op ≠ .select cs b := fun cs b he => by rw [he] at h; exact h
      simp only [Sg.tag, mRunK]
      unfold m1k
      rw [ho]
      simp only [okG_wanted hc.1 hG, if_true]
      refine sayOp_congr (execOp_env hA hsel hc.2) ?_
      refine sayOp_mono (sayOp_of o e.ev (fun g => rfl) h) (fun v w' hv => ⟨fun _ hr => (by cases hr), ?_⟩)
      refine ih G l (a.put o.dst v) (e.put o.dst v) w' k (hA.put o.dst (hn (o, i) (List.mem_cons_self ..)) v) (hG.stays (l := o.dst.toList) (Stays.put (fun t ht => by simp [ht]) v) (fun t ht => okG_dst hc.1 t (by simpa using ht)))
        (fun p hp => hl p (List.mem_cons_of_mem _ hp)) (fun p hp => hn p (List.mem_cons_of_mem _ hp)) (by simp only [Sg.len, List.length_cons] at hlen; omega) hv
  | onek rs r ih =>
    intro G l a e w k hA hG hl hn hlen h
    cases l with
    | nil => exact h.elim
    | cons p l =>
      obtain ⟨o, i⟩ := p
      have ho : ops[i]? = some o := hl (o, i) (List.mem_cons_self ..)
      simp only [vcS] at h
      cases hc : (okG G o && e.knows (opnds o.op)) <;> simp only [hc, cond_true, cond_false] at h
      simp only [Bool.and_eq_true] at hc
      cases hkl : keepL P ops e rs with
      | none => rw [hkl] at h; exact h.elim
      | some ps =>
        rw [hkl] at h
        simp only [pKept] at h
        have hsel : ∀ cs b, o.op ≠ .select cs b := fun cs b he => by rw [he] at h; exact h
        simp only [Sg.tag, mRunK]
        unfold m1k
        rw [ho]
        simp only [okG_wanted hc.1 hG, if_true]
        refine sayOp_congr (execOp_env hA hsel hc.2) ?_
        refine sayOp_mono (sayOp_of o e.ev (fun g => rfl) h) (fun v w' hv => ⟨keepL_keep hA rs ps hkl hv.1, ?_⟩)
        refine ih G l (a.put o.dst v) (e.put o.dst v) w' k (hA.put o.dst (hn (o, i) (List.mem_cons_self ..)) v) (hG.stays (l := o.dst.toList) (Stays.put (fun t ht => by simp [ht]) v) (fun t ht => okG_dst hc.1 t (by simpa using ht)))
          (fun p hp => hl p (List.mem_cons_of_mem _ hp)) (fun p hp => hn p (List.mem_cons_of_mem _ hp)) (by simp only [Sg.len, List.length_cons] at hlen; omega) hv.2
  | sc b inner r ihi ihr =>
    intro G l a e w k hA hG hl hn hlen h
    simp only [vcS] at h
    cases hdr : l.drop inner.len with
    | nil => rw [hdr] at h; exact h.elim
    | cons pki rest =>
      obtain ⟨pk, ipk⟩ := pki
      rw [hdr] at h
      simp only at h
      cases hx : scX b pk.op with
      | none => rw [hx] at h; exact h.elim
      | some sx =>
        obtain ⟨s, x⟩ := sx
        cases hh : headGuard l with
        | none => rw [hx, hh] at h; exact h.elim
        | some jb =>
          obtain ⟨j, b'⟩ := jb
          rw [hx, hh] at h
          simp only at h
          cases hc : ((b' == b) && okG G pk && e.knows1 (.tmp s) && Option.isEqSome ((ops[j]?).bind (·.dst)) s && skipOK j b s (gslots G) (l.take inner.len) [] && !(mem s (dstsOf (l.take inner.len)))) <;> rw [hc] at h <;> simp only [cond_true, cond_false] at h
          simp only [Bool.and_eq_true] at hc
          obtain ⟨⟨⟨⟨⟨hb', hok⟩, hks⟩, hjs⟩, hskip⟩, hsd⟩ := hc
          have hjs := isEqSome_iff hjs
          have hsd' : s ∉ dstsOf (l.take inner.len) := fun hm => by rw [mem_iff.2 hm] at hsd; cases hsd
          have hpkl : (pk, ipk) ∈ l := List.mem_of_mem_drop (by rw [hdr]; exact List.mem_cons_self ..)
          have hpk : ops[ipk]? = some pk := hl _ hpkl
          have hlt : ∀ p ∈ l.take inner.len, ops[p.2]? = some p.1 := fun p hp => hl p (List.mem_of_mem_take hp)
          have hrest : ∀ p ∈ rest, p ∈ l := fun p hp => List.mem_of_mem_drop (by rw [hdr]; exact List.mem_cons_of_mem _ hp)
          have hlen' : l.length = inner.len + 1 + rest.length := by
            have := congrArg List.length hdr
            simp only [List.length_drop, List.length_cons] at this
            omega
          have htake : l.take (Sg.sc b inner r).len = l.take inner.len ++ (pk, ipk) :: rest.take r.len := by
            simp only [Sg.len]
            rw [show inner.len + 1 + r.len = inner.len + (1 + r.len) by omega, List.take_add, hdr, Nat.add_comm 1, List.take_succ_cons]
          simp only [Sg.tag, hdr]
          rw [mRunK_append]
          obtain ⟨⟨t, ht⟩, J, hJ1, hJ2, hJ3⟩ := h
          have hslot : a.tmps[s]? = some (.bool t) := by
            simp only [Env.knows1] at hks
            obtain ⟨v, hv⟩ := Option.isSome_iff_exists.1 hks
            have hv' : e.ev (.tmp s) = v := by simp [Env.ev, hv]
            rw [hv'] at ht
            rw [hA.get s v hv, ht]
          have hGs : ∀ t ∈ dstsOf (l.take inner.len), t ∉ gslots G := by
            have : ∀ (l' : List (Oper × Nat)) (dead : List Nat), skipOK j b s (gslots G) l' dead = true → ∀ t ∈ dstsOf l', t ∉ gslots G := by
              intro l'
              induction l' with
              | nil => intro _ _ t ht; cases ht
              | cons p r' ih' =>
                intro dead hs t ht
                obtain ⟨o', i'⟩ := p
                simp only [skipOK, Bool.and_eq_true] at hs
                obtain ⟨q, hq, hqd⟩ := mem_dstsOf.1 ht
                rcases List.mem_cons.1 hq with rfl | hq
                · intro hm
                  have := hs.1.2
                  rw [hqd] at this
                  simp only [Bool.and_eq_true] at this
                  rw [mem_iff.2 hm] at this
                  cases this.2
                · exact ih' _ hs.2 t (mem_dstsOf.2 ⟨q, hq, hqd⟩)
            exact this _ _ hskip
          -- behind the pick
          have fin : ∀ (a' : Act) (w' : World) (v : Value), Stays (dstsOf (l.take inner.len)) a a' → a'.tmps[s]? = some (.bool t) → J v w' → (t = b → a'.eval x = v) → (t = (!b) → v = .bool (!b)) →
              m1k P ops ipk [] (mRunK P ops (r.tag rest) (fun a' w' => ∃ e', Ag n a' e' ∧ k e' w')) a' w' := by
            intro a' w' v hst hsl hJv hxv hnv
            have hG' : GOk ops a' G := hG.stays hst hGs
            have hA' : Ag n a' (.cut (dstsOf (l.take inner.len)) e) := hA.cut_of _ (hst.1.trans hA.defers) (hst.2.1.trans hA.size) hst.2.2
            have hval : dryOp P pk a'.eval = some v := by
              unfold scX at hx
              split at hx
              · rename_i o' s' x' heq
                simp only [Option.some.injEq, Prod.mk.injEq] at hx
                obtain ⟨rfl, rfl⟩ := hx
                have e1 : a'.eval (.tmp s') = .bool t := by simp [Act.eval, hsl]
                unfold dryOp execOp
                rw [heq]
                simp only [e1, asBool]
                cases t with
                | true => exact congrArg some (hxv rfl)
                | false => exact congrArg some ((hnv rfl).symm)
              · rename_i o' s' x' heq
                simp only [Option.some.injEq, Prod.mk.injEq] at hx
                obtain ⟨rfl, rfl⟩ := hx
                have e1 : a'.eval (.tmp s') = .bool t := by simp [Act.eval, hsl]
                unfold dryOp execOp
                rw [heq]
                simp only [e1, asBool]
                cases t with
                | true => exact congrArg some ((hnv rfl).symm)
                | false => exact congrArg some (hxv rfl)
              · cases hx
            have hcl : cls P pk.op = .p := by
              unfold scX at hx
              split at hx
              · rename_i heq; rw [heq]; rfl
              · rename_i heq; rw [heq]; rfl
              · cases hx
            unfold m1k
            rw [hpk]
            simp only [okG_wanted hok hG', if_true, sayOp, hcl]
            refine ⟨v, hval, fun _ hr => (by cases hr), ?_⟩
            refine ihr G rest _ _ w' k (hA'.put pk.dst (hn _ hpkl) v) (hG'.stays (l := pk.dst.toList) (Stays.put (fun t ht => by simp [ht]) v) (fun t ht => okG_dst hok t (by simpa using ht)))
              (fun p hp => hl p (hrest p hp)) (fun p hp => hn p (hrest p hp)) (by simp only [Sg.len] at hlen; omega) (hJ3 v w' hJv)
          by_cases htb : t = b
          · -- taken
            subst htb
            have h1 := ihi ((j, t, s) :: G) l a e w _ hA (fun g hg => by
              rcases List.mem_cons.1 hg with rfl | hg
              · exact ⟨hjs, hslot⟩
              · exact hG g hg) hl hn (by omega) (hJ1 ht)
            refine mRunK_mono (mRunK_frame _ hlt _ (tag_names inner l (by omega)) h1) ?_
            rintro a' w' ⟨⟨e', hA', hk⟩, hst⟩
            cases hkx : e'.knows1 x <;> simp only [hkx, cond_true, cond_false] at hk
            refine fin a' w' (e'.ev x) hst ((hst.2.2 s hsd').trans hslot) hk (fun _ => hA'.eval hkx) (fun h => ?_)
            cases t <;> cases h
          · have htn : t = !b := by cases t <;> cases b <;> simp_all
            subst htn
            refine mRunK_mono (run_skip hjs _ [] a w hlt hskip (fun _ h => by cases h) hslot _ (tag_names inner l (by omega))) ?_
            rintro a' w' ⟨rfl, hst⟩
            exact fin a' w' (.bool (!b)) hst ((hst.2.2 s hsd').trans hslot) (hJ2 ht) (fun h => absurd h htb) (fun _ => rfl)

theorem vcS_run (sg : Sg) (G : List (Nat × Bool × Nat)) (l : List (Oper × Nat)) (a : Act) (e : Env) (w : World) (k : Env → World → Prop) (hA : Ag n a e) (hG : GOk ops a G)
    (hl : ∀ p ∈ l, ops[p.2]? = some p.1) (hn : ∀ p ∈ l, ∀ t, p.1.dst = some t → t < n) (hlen : sg.len ≤ l.length) (h : vcS P ops sg G l e w k) :
    mRun P ops ((l.take sg.len).map (·.2)) (fun a' w' => ∃ e', Ag n a' e' ∧ k e' w') a w := by
  rw [← tag_names sg l hlen]
  exact mRunK_mRun _ (vcS_runK sg G l a e w k hA hG hl hn hlen h)
end
end Go.Bk
