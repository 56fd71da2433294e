/- The engine, part 1: operations that touch no memory ('dry'), that only look ('look'); environments; one operation's condition 'vcOp' and that it is sound. -/
import Derived.Orders
import Derived.Tactics
import Derived.KernelRfl
import Derived.Shelf.Abstract
set_option linter.unusedSimpArgs false
set_option linter.unusedVariables false
namespace Go.Bk

def dry (P : Program) {α : Type} : Sem α → Option α
  | .pure a => some a
  | .program k => dry P (k P)
  | .mark _ k => dry P k
  | _ => none

theorem dry_run {P : Program} {α : Type} (s : Sem α) : ∀ v, dry P s = some v → ∀ w, s.run P w = .ok v w := by
  induction s with
  | pure a => intro v h w; simp only [dry, Option.some.injEq] at h; subst h; rfl
  | program k ih => intro v h w; exact ih P v h w
  | mark m k ih => intro v h w; exact ih v h w
  | _ => intro v h; simp [dry] at h

def look (P : Program) (w : World) {α : Type} : Sem α → Option α
  | .pure a => some a
  | .program k => look P w (k P)
  | .mark _ k => look P w k
  | .load _ a k => match w.cell? a with | some v => look P w (k v) | none => none
  | .shape r k => look P w (k (w.shape? r))
  | .frozen a k => look P w (k (w.frozen? a))
  | .getObj r k => match w.heap[r]? with | some (.cells ..) => none | some o => look P w (k o) | none => none
  | _ => none

theorem look_run {P : Program} {w : World} {α : Type} (s : Sem α) : ∀ v, look P w s = some v → s.run P w = .ok v w := by
  induction s with
  | pure a => intro v h; simp only [look, Option.some.injEq] at h; subst h; rfl
  | program k ih => intro v h; exact ih P v h
  | mark m k ih => intro v h; exact ih v h
  | load m a k ih =>
    intro v h
    simp only [look] at h
    cases hc : w.cell? a with
    | none => rw [hc] at h; cases h
    | some x => rw [hc] at h; simp only [Sem.run, hc]; exact ih x v h
  | shape r k ih => intro v h; exact ih _ v h
  | frozen a k ih => intro v h; exact ih _ v h
  | getObj r k ih =>
    intro v h
    simp only [look] at h
    cases hc : w.heap[r]? with
    | none => rw [hc] at h; cases h
    | some o => rw [hc] at h; cases o <;> simp only [Sem.run, hc] at h ⊢ <;> first | exact ih _ v h | cases h
  | _ => intro v h; simp [look] at h

theorem look_of_dry {P : Program} {w : World} {α : Type} (s : Sem α) : ∀ v, dry P s = some v → look P w s = some v := by
  induction s with
  | pure a => intro v h; exact h
  | program k ih => intro v h; exact ih P v h
  | mark m k ih => intro v h; exact ih v h
  | _ => intro v h; simp [dry] at h

/-- An environment: what is known of the slots. -/
inductive Env
  | nil
  | set (t : Nat) (v : Value) (e : Env)
  | cut (l : List Nat) (e : Env)

def mem (i : Nat) : List Nat → Bool
  | [] => false
  | a :: l => bif Nat.beq i a then true else mem i l

theorem mem_iff {i : Nat} : ∀ {l : List Nat}, mem i l = true ↔ i ∈ l
  | [] => by simp [mem]
  | a :: l => by
    rw [mem, List.mem_cons, ← mem_iff (l := l)]
    cases h : Nat.beq i a
    · have : i ≠ a := fun e => by subst e; simp at h
      simp [this]
    · have : i = a := Nat.eq_of_beq_eq_true h
      simp [this]

def Env.get : Env → Nat → Option Value
  | .nil, _ => none
  | .set t v e, i => bif Nat.beq i t then some v else e.get i
  | .cut l e, i => bif mem i l then none else e.get i

def Env.ev (e : Env) : Operand → Value
  | .tmp t => (e.get t).getD undef
  | .const v => v
  | .global g => .pointer (some ⟨g, 0, none⟩)
  | .func f => .func (.func f) #[] #[]

def Env.knows1 (e : Env) : Operand → Bool
  | .tmp t => (e.get t).isSome
  | _ => true

def Env.knows (e : Env) (l : List Operand) : Bool := l.all e.knows1

def Env.put (e : Env) : Option Tmp → Value → Env
  | some d, v => .set d v e
  | none, _ => e

/-- The activation agrees with what is known. -/
structure Ag (n : Nat) (a : Act) (e : Env) : Prop where
  defers : a.defers = []
  size : a.tmps.size = n
  get : ∀ t v, e.get t = some v → a.tmps[t]? = some v

theorem Ag.eval {n : Nat} {a : Act} {e : Env} (h : Ag n a e) {x : Operand} (hx : e.knows1 x = true) : a.eval x = e.ev x := by
  cases x with
  | tmp t =>
    simp only [Env.knows1] at hx
    obtain ⟨v, hv⟩ := Option.isSome_iff_exists.1 hx
    have := h.get t v hv
    simp [Act.eval, Env.ev, hv, this]
  | _ => rfl

theorem Ag.put {n : Nat} {a : Act} {e : Env} (h : Ag n a e) (d : Option Tmp) (hd : ∀ t, d = some t → t < n) (v : Value) : Ag n (a.put d v) (e.put d v) := by
  cases d with
  | none => exact h
  | some t =>
    refine ⟨h.defers, by simp [Act.put, h.size], fun s u hs => ?_⟩
    simp only [Env.put, Env.get] at hs
    cases hst : Nat.beq s t with
    | true =>
      have : s = t := Nat.eq_of_beq_eq_true hst
      subst this
      simp only [hst, cond_true, Option.some.injEq] at hs
      subst hs
      have : s < a.tmps.size := by rw [h.size]; exact hd s rfl
      simp [Act.put, this]
    | false =>
      simp only [hst, cond_false] at hs
      have hne : t ≠ s := fun e => by subst e; simp at hst
      simp only [Act.put, Array.getElem?_setIfInBounds_ne hne]
      exact h.get s u hs

theorem Ag.cut {n : Nat} {a : Act} {e : Env} (h : Ag n a e) (l : List Nat) : Ag n a (.cut l e) :=
  ⟨h.defers, h.size, fun t v hv => by
    simp only [Env.get] at hv
    cases hm : mem t l <;> simp only [hm, cond_true, cond_false] at hv
    · exact h.get t v hv
    · cases hv⟩

/-- A step that writes slots of l alone. -/
theorem Ag.cut_of {n : Nat} {a a' : Act} {e : Env} (h : Ag n a e) (l : List Nat) (hd : a'.defers = []) (hs : a'.tmps.size = n) (hk : ∀ t, t ∉ l → a'.tmps[t]? = a.tmps[t]?) : Ag n a' (.cut l e) :=
  ⟨hd, hs, fun t v hv => by
    simp only [Env.get] at hv
    cases hm : mem t l <;> simp only [hm, cond_true, cond_false] at hv
    · rw [hk t (fun hmem => by rw [mem_iff.2 hmem] at hm; cases hm)]
      exact h.get t v hv
    · cases hv⟩

/-! operands as lists -/
def callOpnds (c : Call) : List Operand := (match c.callee with | .value f => [f] | .invoke r _ => [r] | .builtin _ => []) ++ c.args.toList

def opnds : Op → List Operand
  | .alloc _ | .ready _ | .waits _ => []
  | .move x | .assign x | .box _ x | .load _ x | .nilCheck x | .unOp _ _ x | .convert _ _ x | .sliceToArrayPointer _ x | .makeInterface _ x
  | .makeChan _ x | .fieldAddr _ x _ | .field _ x _ | .range _ x | .next x _ | .entry x | .typeAssert x _ _ _ | .extract x _ | .panic x | .recv _ x _ => [x]
  | .pick c a b => [c, a, b]
  | .build _ ps | .buildSlice _ _ ps => ps.toList.map (·.2)
  | .store _ a v | .binOp _ _ a v _ | .makeSlice _ a v | .indexAddr _ a v | .index _ a v | .lookup _ a v _ | .mapEntry _ a v | .send a v => [a, v]
  | .makeFunc _ first captured => first.toList ++ captured.toList
  | .makeMap _ r => r.toList
  | .slice _ x l h m => [x] ++ l.toList ++ h.toList ++ m.toList
  | .mapUpdate _ m k v | .entryStore _ m k v | .insert _ m k v => [m, k, v]
  | .call c | .go c | .defer c => callOpnds c
  | .select _ _ => []

theorem mem_opnds {o : Op} (hs : ∀ cs b, o ≠ .select cs b) {x : Operand} (h : x ∈ o.operands) : x ∈ opnds o := by
  cases o <;> simp only [Op.operands, opnds, Call.operands, callOpnds] at h ⊢
  case select cs b => exact absurd rfl (hs cs b)
  case slice t x lo hi mx => cases lo <;> cases hi <;> cases mx <;> simp_all
  case makeMap t r => cases r <;> simp_all
  case call c => cases hc : c.callee <;> simp_all
  case go c => cases hc : c.callee <;> simp_all
  case defer c => cases hc : c.callee <;> simp_all
  all_goals first | (simp at h; done) | (simpa using h) | simp_all

theorem execOp_env {n : Nat} {a : Act} {e : Env} (h : Ag n a e) {o : Oper} (hs : ∀ cs b, o.op ≠ .select cs b) (hk : e.knows (opnds o.op) = true) :
    execOp a.eval o = execOp e.ev o :=
  execOp_congr o hs fun x hx => h.eval (by
    simp only [Env.knows, List.all_eq_true] at hk
    exact hk x (mem_opnds hs hx))

/-! one operation: the primitives that a text is told in -/
def retK (K : Value → World → Prop) : Ending → World → Prop := fun e w => ∃ v, e = .returned v ∧ K v w

def pV (o : Option Value) (K : Value → Prop) : Prop := match o with | some v => K v | none => False
def pE (o : Option (Value × World)) (K : Value → World → Prop) : Prop := match o with | some x => K x.1 x.2 | none => False
def pU (o : Option World) (K : World → Prop) : Prop := match o with | some w => K w | none => False
def semE (P : Program) (s : Sem Value) (w : World) : Option (Value × World) := match s.run P w with | .ok v w' => some (v, w') | .halt _ _ => none
def semU (P : Program) (s : Sem Unit) (w : World) : Option World := match s.run P w with | .ok _ w' => some w' | .halt _ _ => none
def pNext (P : Program) (s : Sem Next) (w : World) (K : Value → World → Prop) : Prop :=
  match s.run P w with
  | .ok (.value v) w' => K v w'
  | .ok .skip w' => K undef w'
  | .ok (.enter f args) w' => Calls P f args w' (retK K)
  | _ => False
def pCall (P : Program) (f : FuncId) (args : List Value) (w : World) (K : Value → World → Prop) : Prop := pNext P (callFunc f args.toArray) w K
def pCallV (P : Program) (f : Value) (args : List Value) (w : World) (K : Value → World → Prop) : Prop := pNext P (do let d ← Deferred.ofValue f args.toArray; invoke d.target d.args) w K

def isC : Operand → Bool | .const _ => true | _ => false
def mkC (b : Bool) : Operand := bif b then .const undef else .tmp 0
def eqS (op : BinOp) (t : TypeId) (cx cy : Bool) (a b : Value) : Sem Value := do eqGuard op t (mkC cx) (mkC cy) a b; binOp op t a b

def pickV (c a b : Value) : Option Value := match c with | .bool t => some (bif t then a else b) | _ => none
def intV (op : BinOp) (k : IntKind) (a b : Int) : Option Value :=
  match op with
  | .add => some (.int k (k.wrap (a + b)))
  | .sub => some (.int k (k.wrap (a - b)))
  | .mul => some (.int k (k.wrap (a * b)))
  | .quo => if b = 0 then none else some (.int k (k.wrap (a.tdiv b)))
  | .rem => if b = 0 then none else some (.int k (a.tmod b))
  | .and => some (.int k (k.wrap (BitVec.ofInt k.bits a &&& BitVec.ofInt k.bits b).toNat))
  | .or => some (.int k (k.wrap (BitVec.ofInt k.bits a ||| BitVec.ofInt k.bits b).toNat))
  | .xor => some (.int k (k.wrap (BitVec.ofInt k.bits a ^^^ BitVec.ofInt k.bits b).toNat))
  | .andNot => some (.int k (k.wrap (BitVec.ofInt k.bits a &&& ~~~BitVec.ofInt k.bits b).toNat))
  | .eql => some (.bool (a == b))
  | .neq => some (.bool (a != b))
  | .lss => some (.bool (a < b))
  | .leq => some (.bool (a ≤ b))
  | .gtr => some (.bool (a > b))
  | .geq => some (.bool (a ≥ b))
  | _ => none
def strV (op : BinOp) (a b : ByteArray) : Option Value :=
  match op with
  | .add => if ((a.size + b.size : Nat) : Int) > IntKind.i64.max then none else some (.string (a ++ b))
  | .eql => some (.bool (a.toList == b.toList))
  | .neq => some (.bool !(a.toList == b.toList))
  | .lss => some (.bool (Op.bytesLess a.toList b.toList))
  | .leq => some (.bool (Op.bytesLess a.toList b.toList || a.toList == b.toList))
  | .gtr => some (.bool !(Op.bytesLess a.toList b.toList || a.toList == b.toList))
  | .geq => some (.bool !(Op.bytesLess a.toList b.toList))
  | _ => none
def binV (op : BinOp) (x y : Value) : Option Value :=
  match x, y with
  | .int k a, .int k' b =>
    match op with
    | .shl => if b < 0 then none else some (.int k (k.wrap (a * 2 ^ (min b.toNat k.bits))))
    | .shr => if b < 0 then none else some (.int k (a.fdiv (2 ^ (min b.toNat k.bits))))
    | op => if k = k' then intV op k a b else none
  | .string a, .string b => strV op a b
  | _, _ => none
def boolV (op : BinOp) (x y : Value) : Option Value :=
  match x, y with
  | .bool a, .bool b => match op with | .eql => some (.bool (a == b)) | .neq => some (.bool !(a == b)) | _ => none
  | _, _ => none
/-- '== nil', '!= nil'. -/
def isNilS : Value → Value → Option Bool
  | .slice none _ _, .slice b _ _ => some b.isNone
  | .slice _ _ _, .slice none _ _ => some false
  | _, _ => none
def isNilP : Value → Value → Option Bool
  | .pointer none, .pointer b => some b.isNone
  | .pointer _, .pointer none => some false
  | _, _ => none
def isNilM : Value → Value → Option Bool
  | .map none, .map b => some b.isNone
  | .map _, .map none => some false
  | _, _ => none
def isNilF : Value → Value → Option Bool
  | .nilFunc, .nilFunc => some true
  | .nilFunc, .func _ _ _ => some false
  | .func _ _ _, .nilFunc => some false
  | _, _ => none
def isNilI : Value → Value → Option Bool
  | .nilIface, .nilIface => some true
  | .nilIface, .iface _ _ => some false
  | .iface _ _, .nilIface => some false
  | _, _ => none
def nilV (op : BinOp) (r : Option Bool) : Option Value :=
  match op with
  | .eql => r.map .bool
  | .neq => r.map fun b => .bool !b
  | _ => none
def unV (op : UnOp) (x : Value) : Option Value :=
  match op, x with
  | .neg, .int k n => some (.int k (k.wrap (0 - n)))
  | .xor, .int k n => some (.int k (k.wrap (BitVec.ofInt k.bits (if k.signed then -1 else k.max) ^^^ BitVec.ofInt k.bits n).toNat))
  | .not, .bool b => some (.bool !b)
  | _, _ => none
def idxV (sz : Nat) (x i : Value) : Option Value :=
  match x, i with
  | .slice (some a) len _, .int _ n => if 0 ≤ n ∧ n < (len : Int) then some (.pointer (some (a.add (n.toNat * sz)))) else none
  | _, _ => none
def idxA (sz len : Nat) (x i : Value) : Option Value :=
  match x, i with
  | .pointer (some a), .int _ n => if 0 ≤ n ∧ n < (len : Int) then some (.pointer (some (a.add (n.toNat * sz)))) else none
  | _, _ => none
def fldA (off : Nat) (x : Value) : Option Value := match x with | .pointer (some a) => some (.pointer (some (a.add off))) | _ => none
def partV (agg : Bool) (sz : Nat) (cs : Array Value) (off : Nat) : Option Value := bif agg then some (.agg (cs.extract off (off + sz))) else cs[off]?
def fldV (agg : Bool) (sz off : Nat) (x : Value) : Option Value := match x with | .agg cs => partV agg sz cs off | _ => none
def idxG (agg : Bool) (sz len : Nat) (x i : Value) : Option Value :=
  match x, i with
  | .agg cs, .int _ n => if 0 ≤ n ∧ n < (len : Int) then partV agg sz cs (n.toNat * sz) else none
  | _, _ => none
def idxT (x i : Value) : Option Value :=
  match x, i with
  | .string s, .int _ n => if 0 ≤ n then (s[n.toNat]?).map fun b => .int .u8 b.toNat else none
  | _, _ => none
def bnd (x : Option Value) (d y : Nat) : Option Nat :=
  match x with
  | none => some d
  | some (.int _ i) => if 0 ≤ i ∧ i ≤ (y : Int) then some i.toNat else none
  | _ => none
def hiD (mx : Option Value) (len : Nat) : Nat := bif mx.isNone then len else 0
def slV (sz : Nat) (x : Value) (lo hi mx : Option Value) : Option Value :=
  match x with
  | .slice a len cap =>
    (bnd mx cap cap).bind fun m => (bnd hi (hiD mx len) m).bind fun h => (bnd lo 0 h).bind fun l =>
      if hi.isNone && mx.isSome then none else some (.slice (if m = l then a else a.map (·.add (l * sz))) (h - l) (m - l))
  | _ => none
def slT (x : Value) (lo hi : Option Value) : Option Value :=
  match x with
  | .string s => (bnd hi s.size s.size).bind fun h => (bnd lo 0 h).bind fun l => some (.string (s.extract l h))
  | _ => none
def slA (sz n : Nat) (x : Value) (lo hi : Option Value) : Option Value :=
  match x with
  | .pointer (some a) => (bnd hi n n).bind fun h => (bnd lo 0 h).bind fun l => some (.slice (some (if n = l then a else a.add (l * sz))) (h - l) (n - l))
  | _ => none
def extV (x : Value) (i : Nat) : Option Value := match x with | .tuple vs => vs[i]? | _ => none
def bldV (zero : Array Value) (places : Array (Nat × Nat)) (parts : List (Nat × Value)) : Option Value := (Instr.fill (places[·]?) zero parts).map .agg
def bldA (zero : Array Value) (sz : Nat) (parts : List (Nat × Value)) : Option Value := (Instr.fill (fun i => some (i * sz, sz)) zero parts).map .agg
def convV (k : IntKind) (x : Value) : Option Value := match x with | .int _ n => some (.int k (k.wrap n)) | _ => none
def lenS (x : Value) : Option Value := match x with | .slice _ n _ => some (.int .i64 n) | _ => none
def lenT (x : Value) : Option Value := match x with | .string s => some (.int .i64 s.size) | _ => none
def capS (x : Value) : Option Value := match x with | .slice _ _ n => some (.int .i64 n) | _ => none
def ldC (w : World) (a : Addr) (i : Nat) : Nat → Array Value → Option (Array Value)
  | 0, acc => some acc
  | n + 1, acc => match w.cell? (a.add i) with | some v => ldC w a (i + 1) n (acc.push v) | none => none
def ldV (agg : Bool) (sz : Nat) (w : World) (x : Value) : Option Value :=
  match x with
  | .pointer (some a) => bif agg then (ldC w a 0 sz #[]).map .agg else w.cell? a
  | _ => none
def oneC : Value → Bool | .agg _ => false | .tuple _ => false | _ => true
def stC (w : World) (a : Addr) : List Value → Nat → Option World
  | [], _ => some w
  | v :: r, i => match w.cell? (a.add i) with | some _ => bif w.frozen? (a.add i) || !oneC v then none else stC (w.setCell (a.add i) v) a r (i + 1) | none => none
def stE (sz : Nat) (x v : Value) (w : World) : Option World :=
  match x with
  | .pointer (some a) => bif Nat.beq v.cells.size sz then stC w a v.cells.toList 0 else none
  | _ => none
def boxE (t : TypeId) (x : Value) (w : World) : Option (Value × World) := some (.pointer (some ⟨w.heap.size, 0, none⟩), w.alloc (.cells x.cells t))
def mapE (w : World) : Option (Value × World) := some (.map (some w.heap.size), w.alloc (.map #[] 0))
def mkE (e sz : Nat) (vs : List Value) (w : World) : Option (Value × World) :=
  bif vs.all fun v => Nat.beq v.cells.size sz then some (.slice (some ⟨w.heap.size, 0, none⟩) vs.length vs.length, w.alloc (.cells ((vs.map (·.cells.toList)).flatten).toArray e)) else none
def nilC (x : Value) : Option Value :=
  match x with
  | .pointer (some a) => some (.pointer (some a))
  | .iface t v => some (.iface t v)
  | .func (.func f) a b => some (.func (.func f) a b)
  | _ => none

/-- What class an operation is of: p touches no memory, r looks, e else. -/
inductive Cls | p | r | e

def isInt (P : Program) (t : TypeId) : Bool := match P.underlying t with | some (.int _) => true | _ => false
def isLen (P : Program) (t : TypeId) : Bool := match P.underlying t with | some (.slice _) => true | some .string => true | some (.array _ _) => true | _ => false
def aggT (P : Program) (t : TypeId) : Bool := match P.underlying t with | some (.struct _) => true | some (.array _ _) => true | _ => false

def cls (P : Program) : Op → Cls
  | .move _ | .assign _ | .pick .. | .binOp .. | .unOp .. | .indexAddr .. | .field .. | .index .. | .slice .. | .extract .. | .makeInterface .. | .makeFunc .. | .build .. => .p
  | .fieldAddr .. | .nilCheck _ => .p
  | .convert s d _ => bif isInt P s && isInt P d then .p else .e
  | .load .. | .lookup .. => .r
  | .call { callee := .builtin b, argTypes, .. } => match b with
    | .len => bif isLen P (argTypes.getD 0 0) then .p else .r
    | .cap => .p
    | .min | .max => .p
    | _ => .e
  | _ => .e

def vcOp (P : Program) (o : Op) (ty : TypeId) (ρ : Operand → Value) (w : World) (K : Value → World → Prop) : Prop :=
  match o with
  | .move x | .assign x => K (ρ x) w
  | .pick c a b => pV (pickV (ρ c) (ρ a) (ρ b)) fun v => K v w
  | .binOp op t x y _ =>
    match P.underlying t with
    | some .bool => pV (boolV op (ρ x) (ρ y)) fun v => K v w
    | some (.int _) => pV (binV op (ρ x) (ρ y)) fun v => K v w
    | some .string => pV (binV op (ρ x) (ρ y)) fun v => K v w
    | some (.slice _) => pV (nilV op (isNilS (ρ x) (ρ y))) fun v => K v w
    | some (.map _ _) => pV (nilV op (isNilM (ρ x) (ρ y))) fun v => K v w
    | some (.func _ _ _) => pV (nilV op (isNilF (ρ x) (ρ y))) fun v => K v w
    | some (.pointer _) => bif isC x || isC y then pV (nilV op (isNilP (ρ x) (ρ y))) fun v => K v w else pV (dry P (eqS op t (isC x) (isC y) (ρ x) (ρ y))) fun v => K v w
    | some (.interface _) => bif isC x || isC y then pV (nilV op (isNilI (ρ x) (ρ y))) fun v => K v w else pV (dry P (eqS op t (isC x) (isC y) (ρ x) (ρ y))) fun v => K v w
    | _ => pV (dry P (eqS op t (isC x) (isC y) (ρ x) (ρ y))) fun v => K v w
  | .unOp op _ x => pV (unV op (ρ x)) fun v => K v w
  | .indexAddr t x i =>
    match P.underlying t with
    | some (.slice e) => match P.info? e with | some ie => pV (idxV ie.size (ρ x) (ρ i)) fun v => K v w | none => False
    | some (.array n e) => match P.info? e with | some ie => pV (idxA ie.size n (ρ x) (ρ i)) fun v => K v w | none => False
    | _ => False
  | .fieldAddr s x f =>
    match P.underlying s with
    | some (.struct fs) => match fs[f]? with
      | some fd => match P.info? fd.type with | some i => bif Nat.beq i.size 0 then False else pV (fldA fd.offset (ρ x)) fun v => K v w | none => False
      | none => False
    | _ => False
  | .field t x f =>
    match P.underlying t with
    | some (.struct fs) => match fs[f]? with
      | some fd => match P.info? fd.type, P.underlying fd.type with | some i, some _ => pV (fldV (aggT P fd.type) i.size fd.offset (ρ x)) fun v => K v w | _, _ => False
      | none => False
    | _ => False
  | .index t x i =>
    match P.underlying t with
    | some (.array n e) => match P.info? e, P.underlying e with | some ie, some _ => pV (idxG (aggT P e) ie.size n (ρ x) (ρ i)) fun v => K v w | _, _ => False
    | some .string => pV (idxT (ρ x) (ρ i)) fun v => K v w
    | _ => False
  | .slice t x lo hi mx =>
    match P.underlying t with
    | some (.slice e) => match P.info? e with | some ie => pV (slV ie.size (ρ x) (lo.map ρ) (hi.map ρ) (mx.map ρ)) fun v => K v w | none => False
    | some .string => bif mx.isNone then pV (slT (ρ x) (lo.map ρ) (hi.map ρ)) fun v => K v w else False
    | some (.array n e) => match P.info? e with | some ie => bif mx.isNone then pV (slA ie.size n (ρ x) (lo.map ρ) (hi.map ρ)) fun v => K v w else False | none => False
    | _ => False
  | .extract t i => pV (extV (ρ t) i) fun v => K v w
  | .makeInterface t x => match P.underlying t with | some (.interface _) => False | some _ => K (.iface t (ρ x)) w | none => False
  | .makeFunc fn first captured => K (.func fn (first.toList.map ρ).toArray (captured.toList.map ρ).toArray) w
  | .build t parts =>
    match (P.info? t).bind (·.zero) with
    | none => False
    | some z =>
      match P.underlying t with
        | some (.struct fs) => bif fs.toList.all (fun f => (P.info? f.type).isSome) then pV (bldV z.cells (fs.toList.map fun f => (f.offset, P.cellsOf f.type)).toArray (parts.toList.map fun p => (p.1, ρ p.2))) fun v => K v w else False
        | some (.array _ e) => bif (P.info? e).isSome then pV (bldA z.cells (P.cellsOf e) (parts.toList.map fun p => (p.1, ρ p.2))) fun v => K v w else False
        | _ => False
  | .convert s d x =>
    match P.underlying s, P.underlying d with
    | some (.int _), some (.int k) => pV (convV k (ρ x)) fun v => K v w
    | _, _ => pE (semE P (convert s d (ρ x)) w) K
  | .load t x => match P.info? t, P.underlying t with | some i, some _ => pV (ldV (aggT P t) i.size w (ρ x)) fun v => K v w | _, _ => False
  | .lookup t x i ok => pV (look P w (Instr.lookup t (ρ x) (ρ i) ok)) fun v => K v w
  | .alloc t => match (P.info? t).bind (·.zero) with | some z => pE (boxE t z w) K | none => False
  | .box t x => pE (boxE t (ρ x) w) K
  | .buildSlice t n parts =>
    match P.underlying t with
    | some (.slice e) => match P.info? e with
      | some ie => bif Nat.ble (n * ie.size) 16777216 && (parts.toList.map (·.1) == List.range n) && ie.zero.isSome then pE (mkE e ie.size (parts.toList.map fun p => ρ p.2) w) K
          else pE (semE P (Instr.buildSlice t n (parts.toList.map fun p => (p.1, ρ p.2)).toArray) w) K
      | none => False
    | _ => False
  | .makeSlice t l c => pE (semE P (Instr.makeSlice t (ρ l) (ρ c)) w) K
  | .makeMap t r => match r with | none => pE (mapE w) K | some r => pE (semE P (Instr.makeMap t (some (ρ r))) w) K
  | .store t a x => match P.info? t with | some i => pU (stE i.size (ρ a) (ρ x) w) (K undef) | none => False
  | .mapUpdate t m k x | .insert t m k x => pU (semU P (Instr.mapUpdate t (ρ m) (ρ k) (ρ x)) w) (K undef)
  | .mapEntry t m k => pE (semE P (Instr.mapEntry t (ρ m) (ρ k)) w) K
  | .entryStore t m s x => pU (semU P (Instr.entryStore t (ρ m) (ρ s) (ρ x)) w) (K undef)
  | .range t x => pE (semE P (Instr.range t (ρ x)) w) K
  | .next it s => pE (semE P (Instr.next (ρ it) s ty) w) K
  | .entry it => pE (semE P (Instr.entry (ρ it)) w) K
  | .typeAssert x t u ok => pE (semE P (Instr.typeAssert (ρ x) t u ok) w) K
  | .nilCheck x => pV (nilC (ρ x)) fun v => K v w
  | .call { callee, args, argTypes } =>
    match callee with
    | .builtin b =>
      match b with
      | .len =>
        match argTypes.toList, args.toList with
        | [t0], [x] =>
          match P.underlying t0 with
          | some (.slice _) => pV (lenS (ρ x)) fun v => K v w
          | some .string => pV (lenT (ρ x)) fun v => K v w
          | some (.array n _) => K (.int .i64 n) w
          | _ => pV (look P w (Builtin.len_ #[t0] ty #[ρ x])) fun v => K v w
        | _, _ => False
      | .cap =>
        match argTypes.toList, args.toList with
        | [t0], [x] =>
          match P.underlying t0 with
          | some (.slice _) => pV (capS (ρ x)) fun v => K v w
          | _ => False
        | _, _ => False
      | .min => pV (dry P (Builtin.min_ argTypes ty (args.toList.map ρ).toArray)) fun v => K v w
      | .max => pV (dry P (Builtin.max_ argTypes ty (args.toList.map ρ).toArray)) fun v => K v w
      | .append => pE (semE P (Builtin.append_ argTypes ty (args.toList.map ρ).toArray) w) K
      | .copy => pE (semE P (Builtin.copy_ argTypes ty (args.toList.map ρ).toArray) w) K
      | .delete => pE (semE P (Builtin.delete_ argTypes ty (args.toList.map ρ).toArray) w) K
      | .clear => pE (semE P (Builtin.clear_ argTypes ty (args.toList.map ρ).toArray) w) K
      | _ => False
    | .value f => match f with
      | .func g => pCall P g (args.toList.map ρ) w K
      | f => pCallV P (ρ f) (args.toList.map ρ) w K
    | .invoke r m => pNext P (invoke (.fn (.method m) #[]) (ρ r :: args.toList.map ρ).toArray) w K
  | _ => False

theorem map_eq {α β : Type} (f : α → β) (xs : Array α) : (xs.toList.map f).toArray = xs.map f := by
  cases xs; simp

theorem eqS_eq (op : BinOp) (t : TypeId) (x y : Operand) (a b : Value) : (do eqGuard op t x y a b; binOp op t a b : Sem Value) = eqS op t (isC x) (isC y) a b := by
  have h : eqGuard op t x y a b = eqGuard op t (mkC (isC x)) (mkC (isC y)) a b := by
    unfold eqGuard
    cases x <;> cases y <;> simp [isC, mkC]
  rw [eqS, h]

section
variable {P : Program} {o : Oper} {a : Act} {next : Act → World → Prop} {Q : Exit → Act → World → Prop} {w : World} {K : Value → World → Prop}

theorem run_v (s : Sem Value) (w : World) : (do pure (Next.value (← s)) : Sem Next).run P w = match s.run P w with | .ok v w' => .ok (.value v) w' | .halt h w' => .halt h w' := by
  show (s.bind fun a => Sem.pure (Next.value a)).run P w = _
  rw [Sem.run_bind']
  cases s.run P w <;> rfl

theorem run_u (s : Sem Unit) (w : World) : (do s; pure Next.skip : Sem Next).run P w = match s.run P w with | .ok _ w' => .ok .skip w' | .halt h w' => .halt h w' := by
  show (s.bind fun _ => Sem.pure Next.skip).run P w = _
  rw [Sem.run_bind']
  cases s.run P w <;> rfl

theorem upon_pNext {s : Sem Next} (h : pNext P s w K) (hK : ∀ v w', K v w' → next (a.put o.dst v) w') : o.upon P a next Q (s.run P w) := by
  unfold pNext at h
  cases hr : s.run P w with
  | halt x w' => rw [hr] at h; exact h.elim
  | ok n w' =>
    rw [hr] at h
    cases n <;> simp only at h <;> first | exact h.elim | skip
    · exact hK _ _ h
    · exact hK _ _ h
    · refine Calls.mono h ?_
      rintro e w'' ⟨v, rfl, hk⟩
      exact hK _ _ hk
end

end Go.Bk
