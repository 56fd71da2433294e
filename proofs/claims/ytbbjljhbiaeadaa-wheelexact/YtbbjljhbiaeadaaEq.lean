/- Comparing structs: what '==' tells of their fields. -/
import Derived.Test.YtbbjljhbiaeadaaMem6
import Derived.Laws.StructEq
set_option linter.unusedSimpArgs false
set_option linter.unusedVariables false
namespace Go.Bk
open Go.RowKit
variable {P : Program}

theorem dry_prog : dry P program = some P := rfl

theorem dry_und {t : TypeId} {d : TypeDesc} (h : P.underlying t = some d) : dry P (underlying t) = some d := by
  simp only [underlying, dry_bind, dry_prog, Option.bind_some, h, dry_pure]

def eqFieldsD (P : Program) (d : Nat) (xs ys : Array Value) : List Field → Option Bool
  | [] => some true
  | f :: fs =>
    if f.name ≠ "_" then
      (dry P (part f.type xs f.offset)).bind fun a => (dry P (part f.type ys f.offset)).bind fun b => (dry P (Op.equalIn d f.type a b)).bind fun r => if r = true then eqFieldsD P d xs ys fs else some false
    else eqFieldsD P d xs ys fs

theorem dry_ite {α : Type} (c : Prop) [Decidable c] (a b : Sem α) : dry P (if c then a else b) = if c then dry P a else dry P b := by split <;> rfl

theorem dry_equalIn_struct (d : Nat) (t : TypeId) (xs ys : Array Value) (ht : P.underlying t = some (.struct (P.fieldsOf t))) (hp : P.stoodInHeld t = false) :
    dry P (Op.equalIn (d + 1) t (.agg xs) (.agg ys)) = eqFieldsD P d xs ys (P.fieldsOf t).toList := by
  simp only [Op.equalIn, dry_bind, dry_und ht, Option.bind_some, dry_prog, hp, Bool.false_eq_true, if_false]
  rw [← Array.forIn_toList]
  generalize (P.fieldsOf t).toList = fs
  clear ht
  induction fs with
  | nil => simp [eqFieldsD, dry_pure, dry_bind]
  | cons f fs ih =>
    simp only [List.forIn_cons, eqFieldsD, dry_bind, dry_ite]
    split
    · cases dry P (part f.type xs f.offset) with
      | none => rfl
      | some a =>
        simp only [Option.bind_some]
        cases dry P (part f.type ys f.offset) with
        | none => rfl
        | some b =>
          simp only [Option.bind_some]
          cases dry P (Op.equalIn d f.type a b) with
          | none => rfl
          | some r =>
            cases r
            · simp [dry_pure]
            · simp only [Option.bind_some, Bool.not_true, Bool.false_eq_true, if_false, dry_pure, if_true]
              simpa [dry_bind] using ih
    · simp only [dry_pure, Option.bind_some]
      simpa [dry_bind] using ih
theorem dry_equalIn_int (d : Nat) (t : TypeId) (k k' : IntKind) (a b : Int) (h : P.underlying t = some (.int k')) : dry P (Op.equalIn (d + 1) t (.int k a) (.int k b)) = some (a == b) := by
  simp only [Op.equalIn, dry_bind, dry_und h, Option.bind_some, if_true, dry_pure]
theorem dry_equalIn_bool (d : Nat) (t : TypeId) (a b : Bool) (h : P.underlying t = some .bool) : dry P (Op.equalIn (d + 1) t (.bool a) (.bool b)) = some (a == b) := by
  simp only [Op.equalIn, dry_bind, dry_und h, Option.bind_some, dry_pure]
theorem eqS_neq {t : TypeId} {xs ys : Array Value} {r : Bool} (hm : P.eqGuardType P.depth t = false) (h : dry P (Op.equalIn 10000 t (.agg xs) (.agg ys)) = some r) : dry P (eqS .neq t false false (.agg xs) (.agg ys)) = some (.bool !r) := by
  have h1 : dry P (eqGuard .neq t (mkC false) (mkC false) (.agg xs) (.agg ys)) = some () := by
    simp [eqGuard, dry_bind, dry_prog, hm, dry_pure]
  have h2 : dry P (binOp .neq t (.agg xs) (.agg ys)) = some (.bool !r) := by
    simp only [binOp, dry_bind, Op.equal, Op.maxDepth, h, Option.bind_some, dry_pure]
  simp only [eqS, dry_bind, h1, h2, Option.bind_some]
theorem eqS_eql {t : TypeId} {xs ys : Array Value} {r : Bool} (hm : P.eqGuardType P.depth t = false) (h : dry P (Op.equalIn 10000 t (.agg xs) (.agg ys)) = some r) : dry P (eqS .eql t false false (.agg xs) (.agg ys)) = some (.bool r) := by
  have h1 : dry P (eqGuard .eql t (mkC false) (mkC false) (.agg xs) (.agg ys)) = some () := by
    simp [eqGuard, dry_bind, dry_prog, hm, dry_pure]
  have h2 : dry P (binOp .eql t (.agg xs) (.agg ys)) = some (.bool r) := by
    simp only [binOp, dry_bind, Op.equal, Op.maxDepth, h, Option.bind_some, dry_pure]
  simp only [eqS, dry_bind, h1, h2, Option.bind_some]
end Go.Bk
