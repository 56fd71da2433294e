/- The engine, part 2: one operation is sound; a region in whatever order. -/
import Derived.Test.YtbbjljhbiaeadaaEn1
set_option linter.unusedSimpArgs false
set_option linter.unusedVariables false
namespace Go.Bk

theorem dry_bind {P : Program} {α β : Type} (s : Sem α) (f : α → Sem β) : dry P (s >>= f) = (dry P s).bind fun a => dry P (f a) := by
  show dry P (s.bind f) = _
  induction s with
  | pure a => rfl
  | program k ih => exact ih P
  | mark m k ih => exact ih
  | _ => rfl

theorem look_bind {P : Program} {w : World} {α β : Type} (s : Sem α) (f : α → Sem β) : look P w (s >>= f) = (look P w s).bind fun a => look P w (f a) := by
  show look P w (s.bind f) = _
  induction s with
  | pure a => rfl
  | program k ih => exact ih P
  | mark m k ih => exact ih
  | load m a k ih => simp only [Sem.bind, look]; cases w.cell? a with | none => rfl | some v => exact ih v
  | shape r k ih => exact ih _
  | frozen a k ih => exact ih _
  | getObj r k ih => simp only [Sem.bind, look]; cases w.heap[r]? with | none => rfl | some o => cases o <;> first | rfl | exact ih _
  | _ => rfl

def dryOp (P : Program) (o : Oper) (ρ : Operand → Value) : Option Value := match dry P (execOp ρ o) with | some (.value v) => some v | _ => none
def lookOp (P : Program) (w : World) (o : Oper) (ρ : Operand → Value) : Option Value := match look P w (execOp ρ o) with | some (.value v) => some v | _ => none

theorem dryOp_run {P : Program} {o : Oper} {ρ : Operand → Value} {v : Value} (h : dryOp P o ρ = some v) (w : World) : (execOp ρ o).run P w = .ok (.value v) w := by
  unfold dryOp at h
  split at h
  · rename_i u hu; cases h; exact dry_run _ _ hu w
  · cases h

theorem lookOp_run {P : Program} {w : World} {o : Oper} {ρ : Operand → Value} {v : Value} (h : lookOp P w o ρ = some v) : (execOp ρ o).run P w = .ok (.value v) w := by
  unfold lookOp at h
  split at h
  · rename_i u hu; cases h; exact look_run _ _ hu
  · cases h

theorem pNext_mono {P : Program} {s : Sem Next} {w : World} {K K' : Value → World → Prop} (h : pNext P s w K) (hk : ∀ v w', K v w' → K' v w') : pNext P s w K' := by
  unfold pNext at *
  cases hr : s.run P w with
  | halt x w' => rw [hr] at h; exact h.elim
  | ok n w' =>
    rw [hr] at h
    cases n <;> simp only at h ⊢ <;> first | exact h.elim | exact hk _ _ h | skip
    refine Calls.mono h ?_
    rintro e w'' ⟨v, rfl, hv⟩
    exact ⟨v, rfl, hk _ _ hv⟩

theorem pNext_ex {P : Program} {s : Sem Next} {w : World} {K : Value → World → Prop} (h : pNext P s w K) : ∃ v w', K v w' := by
  unfold pNext at *
  cases hr : s.run P w with
  | halt x w' => rw [hr] at h; exact h.elim
  | ok n w' =>
    rw [hr] at h
    cases n <;> simp only at h <;> first | exact h.elim | exact ⟨_, _, h⟩ | skip
    obtain ⟨e, w'', fr, ⟨v, rfl, hv⟩, _⟩ := h []
    exact ⟨v, w'', hv⟩

/-! what the primitives say of the model's operations -/
section
variable {P : Program}

theorem dry_pure {α : Type} (a : α) : dry P (pure a : Sem α) = some a := rfl
theorem dry_stuck {α : Type} (why : String) : dry P (stuck why : Sem α) = none := rfl
theorem dry_underlying (t : TypeId) : dry P (underlying t) = P.underlying t := by
  show dry P (match P.underlying t with | some d => (Sem.pure d : Sem TypeDesc) | none => stuck "no such type") = _
  cases P.underlying t <;> rfl
theorem dry_typeInfo (t : TypeId) : dry P (typeInfo t) = P.info? t := by
  show dry P (match P.info? t with | some d => (Sem.pure d : Sem TypeInfo) | none => stuck "no such type") = _
  cases P.info? t <;> rfl
theorem dry_sizeOf (t : TypeId) : dry P (sizeOf t) = (P.info? t).map (·.size) := by
  unfold sizeOf
  rw [dry_bind, dry_typeInfo]
  cases P.info? t <;> rfl
theorem dry_isAgg {t : TypeId} {d : TypeDesc} (h : P.underlying t = some d) : dry P (isAgg t) = some (aggT P t) := by
  unfold isAgg aggT
  rw [dry_bind, dry_underlying, h]
  cases d <;> rfl

theorem dry_guard {op : BinOp} {t : TypeId} {cx cy : Bool} {x y : Value} (h : (match x, y with | .nilIface, .nilIface => cx || cy | .agg _, .agg _ => false | _, _ => true) = true) : dry P (eqGuard op t (mkC cx) (mkC cy) x y) = some () := by
  unfold eqGuard
  cases op <;> try rfl
  all_goals
    cases x <;> cases y <;> (try rfl) <;> (try (exact absurd h Bool.false_ne_true))
    cases cx <;> cases cy <;> first | rfl | (exact absurd h Bool.false_ne_true)
theorem dry_int {op : BinOp} {t : TypeId} {cx cy : Bool} {x y v : Value} (h : binV op x y = some v) : dry P (eqS op t cx cy x y) = some v := by
  unfold eqS
  rw [dry_bind]
  unfold binV at h
  split at h
  · rename_i k a k' b
    rw [dry_guard rfl]
    simp only [Option.bind_some]
    cases op <;> simp only [binOp, Op.shift] at h ⊢
    case shl => split at h <;> rename_i hb <;> first | (cases h; done) | (rw [if_neg hb]; exact h)
    case shr => split at h <;> rename_i hb <;> first | (cases h; done) | (rw [if_neg hb]; exact h)
    all_goals
      split at h <;> rename_i hk <;> first | (cases h; done) | skip
      subst hk
      simp only [ne_eq, not_true_eq_false, if_false]
      first
        | exact h
        | (simp only [intV] at h; simp only [Op.intDiv]; split at h <;> rename_i hb <;> first | (cases h; done) | (rw [if_neg hb]; exact h))
  · rename_i a b
    rw [dry_guard rfl]
    simp only [Option.bind_some, binOp, Op.stringOp]
    unfold strV at h
    cases op <;> simp only at h ⊢ <;> first | exact h | (cases h; done) | (split at h <;> rename_i hb <;> first | (cases h; done) | (rw [if_neg hb]; exact h))
  · cases h

theorem equal_unfold (t : TypeId) (x y : Value) : Op.equal t x y = Op.equalIn (9999 + 1) t x y := rfl

theorem dry_eql {t : TypeId} {x y : Value} {b : Bool} (h : dry P (Op.equal t x y) = some b) (he : binOp .eql t x y = (do pure (.bool (← Op.equal t x y)) : Sem Value)) : dry P (binOp .eql t x y) = some (.bool b) := by
  rw [he, dry_bind, h]; rfl
theorem dry_neq {t : TypeId} {x y : Value} {b : Bool} (h : dry P (Op.equal t x y) = some b) (he : binOp .neq t x y = (do pure (.bool (!(← Op.equal t x y))) : Sem Value)) : dry P (binOp .neq t x y) = some (.bool !b) := by
  rw [he, dry_bind, h]; rfl

theorem dry_bool {op : BinOp} {t : TypeId} {cx cy : Bool} {x y v : Value} (ht : P.underlying t = some .bool) (h : boolV op x y = some v) : dry P (eqS op t cx cy x y) = some v := by
  unfold eqS
  rw [dry_bind]
  unfold boolV at h
  split at h
  · rename_i a b
    rw [dry_guard rfl, Option.bind_some]
    have he : dry P (Op.equal t (.bool a) (.bool b)) = some (a == b) := by
      rw [equal_unfold, Op.equalIn, dry_bind, dry_underlying, ht]; rfl
    cases op <;> simp only at h <;> first | (cases h; done) | skip
    · rw [dry_eql he rfl]; exact h
    · rw [dry_neq he rfl]; exact h
  · cases h

theorem dry_nil_of {op : BinOp} {t : TypeId} {cx cy : Bool} {x y v : Value} {r : Option Bool} (h : nilV op r = some v) (hg : ∀ b, r = some b → dry P (eqGuard op t (mkC cx) (mkC cy) x y) = some ())
    (hb : ∀ b, r = some b → dry P (Op.equal t x y) = some b) (h1 : ∀ b, r = some b → binOp .eql t x y = (do pure (.bool (← Op.equal t x y)) : Sem Value)) (h2 : ∀ b, r = some b → binOp .neq t x y = (do pure (.bool (!(← Op.equal t x y))) : Sem Value)) : dry P (eqS op t cx cy x y) = some v := by
  unfold nilV at h
  cases r with
  | none => cases op <;> simp at h
  | some b =>
    unfold eqS
    rw [dry_bind, hg b rfl, Option.bind_some]
    cases op <;> simp only at h <;> first | (cases h; done) | skip
    · rw [dry_eql (hb b rfl) (h1 b rfl)]; exact h
    · rw [dry_neq (hb b rfl) (h2 b rfl)]; exact h

theorem dry_nilS {op : BinOp} {t e : TypeId} {cx cy : Bool} {x y v : Value} (ht : P.underlying t = some (.slice e)) (h : nilV op (isNilS x y) = some v) : dry P (eqS op t cx cy x y) = some v := by
  refine dry_nil_of h (fun b hb => dry_guard ?_) (fun b hb => ?_) (fun b hb => ?_) (fun b hb => ?_)
  · cases x <;> cases y <;> first | rfl | (simp [isNilS] at hb)
  · rw [equal_unfold, Op.equalIn, dry_bind, dry_underlying, ht, Option.bind_some]
    cases x <;> cases y <;> first | (simp [isNilS] at hb; done) | skip
    rename_i a1 n1 c1 a2 n2 c2
    cases a1 <;> cases a2 <;> simp [isNilS] at hb <;> subst hb <;> rfl
  · cases x <;> cases y <;> first | (simp [isNilS] at hb; done) | rfl
  · cases x <;> cases y <;> first | (simp [isNilS] at hb; done) | rfl

theorem dry_nilP {op : BinOp} {t e : TypeId} {cx cy : Bool} {x y v : Value} (ht : P.underlying t = some (.pointer e)) (h : nilV op (isNilP x y) = some v) : dry P (eqS op t cx cy x y) = some v := by
  refine dry_nil_of h (fun b hb => dry_guard ?_) (fun b hb => ?_) (fun b hb => ?_) (fun b hb => ?_)
  · cases x <;> cases y <;> first | rfl | (simp [isNilP] at hb)
  · rw [equal_unfold, Op.equalIn, dry_bind, dry_underlying, ht, Option.bind_some]
    cases x <;> cases y <;> first | (simp [isNilP] at hb; done) | skip
    rename_i a1 a2
    cases a1 <;> cases a2 <;> simp [isNilP] at hb <;> subst hb <;> rfl
  · cases x <;> cases y <;> first | (simp [isNilP] at hb; done) | rfl
  · cases x <;> cases y <;> first | (simp [isNilP] at hb; done) | rfl

theorem dry_nilM {op : BinOp} {t k e : TypeId} {cx cy : Bool} {x y v : Value} (ht : P.underlying t = some (.map k e)) (h : nilV op (isNilM x y) = some v) : dry P (eqS op t cx cy x y) = some v := by
  refine dry_nil_of h (fun b hb => dry_guard ?_) (fun b hb => ?_) (fun b hb => ?_) (fun b hb => ?_)
  · cases x <;> cases y <;> first | rfl | (simp [isNilM] at hb)
  · rw [equal_unfold, Op.equalIn, dry_bind, dry_underlying, ht, Option.bind_some]
    cases x <;> cases y <;> first | (simp [isNilM] at hb; done) | skip
    rename_i a1 a2
    cases a1 <;> cases a2 <;> simp [isNilM] at hb <;> subst hb <;> rfl
  · cases x <;> cases y <;> first | (simp [isNilM] at hb; done) | rfl
  · cases x <;> cases y <;> first | (simp [isNilM] at hb; done) | rfl

theorem dry_nilF {op : BinOp} {t : TypeId} {ps rs : Array TypeId} {va : Bool} {cx cy : Bool} {x y v : Value} (ht : P.underlying t = some (.func ps rs va)) (h : nilV op (isNilF x y) = some v) : dry P (eqS op t cx cy x y) = some v := by
  refine dry_nil_of h (fun b hb => dry_guard ?_) (fun b hb => ?_) (fun b hb => ?_) (fun b hb => ?_)
  · cases x <;> cases y <;> first | rfl | (simp [isNilF] at hb)
  · rw [equal_unfold, Op.equalIn, dry_bind, dry_underlying, ht, Option.bind_some]
    cases x <;> cases y <;> simp [isNilF] at hb <;> subst hb <;> rfl
  · cases x <;> cases y <;> first | (simp [isNilF] at hb; done) | rfl
  · cases x <;> cases y <;> first | (simp [isNilF] at hb; done) | rfl

theorem dry_nilI {op : BinOp} {t : TypeId} {ms : Array (String × TypeId)} {cx cy : Bool} {x y v : Value} (hc : (cx || cy) = true) (ht : P.underlying t = some (.interface ms)) (h : nilV op (isNilI x y) = some v) : dry P (eqS op t cx cy x y) = some v := by
  refine dry_nil_of h (fun b hb => dry_guard ?_) (fun b hb => ?_) (fun b hb => ?_) (fun b hb => ?_)
  · cases x <;> cases y <;> first | rfl | exact hc | (simp [isNilI] at hb)
  · rw [equal_unfold, Op.equalIn, dry_bind, dry_underlying, ht, Option.bind_some]
    cases x <;> cases y <;> simp [isNilI] at hb <;> subst hb <;> rfl
  · cases x <;> cases y <;> first | (simp [isNilI] at hb; done) | rfl
  · cases x <;> cases y <;> first | (simp [isNilI] at hb; done) | rfl

theorem dry_un {op : UnOp} {x v : Value} (h : unV op x = some v) : dry P (Op.unary op x) = some v := by
  unfold unV at h
  split at h <;> first | exact h | (cases h; done)

theorem dry_asIntOf (k : IntKind) (n : Int) : dry P (asIntOf (.int k n)) = some (k, n) := rfl

theorem dry_idx {t e : TypeId} {i : TypeInfo} {x ix v : Value} (ht : P.underlying t = some (.slice e)) (hi : P.info? e = some i) (h : idxV i.size x ix = some v) : dry P (Instr.indexAt t x ix) = some v := by
  unfold idxV at h
  split at h
  · rename_i a len c k n
    split at h
    · rename_i hb
      unfold Instr.indexAt
      simp only [dry_bind, dry_asIntOf, dry_underlying, ht, Option.bind_some, dry_pure, if_pos hb, dry_sizeOf, hi, Option.map_some]
      exact h
    · cases h
  · cases h

theorem dry_idxA {t e : TypeId} {len : Nat} {i : TypeInfo} {x ix v : Value} (ht : P.underlying t = some (.array len e)) (hi : P.info? e = some i) (h : idxA i.size len x ix = some v) : dry P (Instr.indexAt t x ix) = some v := by
  unfold idxA at h
  split at h
  · rename_i a k n
    split at h
    · rename_i hb
      unfold Instr.indexAt
      simp only [dry_bind, dry_asIntOf, dry_underlying, ht, Option.bind_some, dry_pure, Instr.sureAddr, if_pos hb, dry_sizeOf, hi, Option.map_some]
      exact h
    · cases h
  · cases h

theorem dry_fld {s : TypeId} {fs : Array Field} {f : Nat} {fd : Field} {i : TypeInfo} {x v : Value} (ht : P.underlying s = some (.struct fs)) (hf : fs[f]? = some fd) (hi : P.info? fd.type = some i) (hz : Nat.beq i.size 0 = false)
    (h : fldA fd.offset x = some v) : dry P (Instr.fieldAt s x f) = some v := by
  unfold fldA at h
  split at h
  · rename_i a
    have hz' : ¬ i.size = 0 := fun e => by rw [e] at hz; cases hz
    unfold Instr.fieldAt fieldPlace
    simp only [dry_bind, dry_underlying, ht, Option.bind_some, hf, dry_pure, Instr.sureAddr, dry_sizeOf, hi, Option.map_some, if_neg hz']
    exact h
  · cases h

theorem dry_part {t : TypeId} {d : TypeDesc} {i : TypeInfo} (hd : P.underlying t = some d) (hi : P.info? t = some i) {cs : Array Value} {off : Nat} {v : Value} (h : partV (aggT P t) i.size cs off = some v) : dry P (part t cs off) = some v := by
  unfold part
  rw [dry_bind, dry_isAgg hd, Option.bind_some]
  unfold partV at h
  cases ha : aggT P t with
  | true =>
    rw [ha] at h
    simp only [if_true, dry_bind, dry_sizeOf, hi, Option.map_some, Option.bind_some]
    exact h
  | false =>
    rw [ha] at h
    simp only [Bool.false_eq_true, if_false]
    simp only [cond_false] at h
    rw [h]; rfl

theorem info_of_underlying {t : TypeId} {d : TypeDesc} (h : P.underlying t = some d) : ∃ i, P.info? t = some i := by
  unfold Program.underlying at h
  cases hi : P.info? t with
  | none => rw [hi] at h; cases h
  | some i => exact ⟨i, rfl⟩

theorem dry_field {s : TypeId} {fs : Array Field} {f : Nat} {fd : Field} {d : TypeDesc} {i : TypeInfo} {x v : Value} (ht : P.underlying s = some (.struct fs)) (hf : fs[f]? = some fd) (hd : P.underlying fd.type = some d) (hi : P.info? fd.type = some i)
    (h : fldV (aggT P fd.type) i.size fd.offset x = some v) : dry P (Instr.field s x f) = some v := by
  unfold fldV at h
  split at h
  · rename_i cs
    unfold Instr.field
    simp only [dry_bind, dry_underlying, ht, Option.bind_some, hf, asAgg, dry_pure]
    exact dry_part hd hi h
  · cases h

theorem dry_idxG {t e : TypeId} {len : Nat} {d : TypeDesc} {i : TypeInfo} {x ix v : Value} (ht : P.underlying t = some (.array len e)) (hd : P.underlying e = some d) (hi : P.info? e = some i) (h : idxG (aggT P e) i.size len x ix = some v) : dry P (Instr.index t x ix) = some v := by
  unfold idxG at h
  split at h
  · rename_i cs k n
    split at h
    · rename_i hb
      unfold Instr.index
      simp only [dry_bind, dry_asIntOf, dry_underlying, ht, Option.bind_some, if_pos hb, dry_sizeOf, hi, Option.map_some]
      exact dry_part hd hi h
    · cases h
  · cases h

theorem dry_idxT {t : TypeId} {x ix v : Value} (ht : P.underlying t = some .string) (h : idxT x ix = some v) : dry P (Instr.index t x ix) = some v := by
  unfold idxT at h
  split at h
  · rename_i s k n
    split at h
    · rename_i hb
      unfold Instr.index
      simp only [dry_bind, dry_asIntOf, dry_underlying, ht, Option.bind_some, if_pos hb]
      cases hs : s[n.toNat]? with
      | none => rw [hs] at h; cases h
      | some b => rw [hs] at h; exact h
    · cases h
  · cases h

theorem dry_bound {x : Value} {y : Nat} {code : BoundsCode} {d m : Nat} (h : bnd (some x) d y = some m) : dry P (Instr.sliceBound x y code) = some m := by
  unfold bnd at h
  split at h
  · cases ‹some x = none›
  · rename_i k i he
    cases he
    split at h
    · rename_i hb
      unfold Instr.sliceBound
      simp only [dry_bind, dry_asIntOf, Option.bind_some, if_pos hb]
      exact h
    · cases h
  · cases h

theorem dry_bounds {isS : Bool} {len cap : Nat} {lo hi mx : Option Value} {l h m : Nat} (hm : bnd mx cap cap = some m) (hh : bnd hi (hiD mx len) m = some h) (hl : bnd lo 0 h = some l) (hx : (hi.isNone && mx.isSome) = false) :
    dry P (Instr.sliceBounds isS len cap lo hi mx) = some (l, h, m) := by
  have hb : ∀ {x : Value} {d y m : Nat}, bnd (some x) d y = some m → ∀ code, dry P (Instr.sliceBound x y code) = some m := fun h _ => dry_bound h
  unfold Instr.sliceBounds
  cases mx with
  | none =>
    have hm' : cap = m := by simpa [bnd] using hm
    subst hm'
    cases hi with
    | none =>
      have hh' : len = h := by simpa [bnd, hiD] using hh
      subst hh'
      cases lo with
      | none =>
        have hl' : 0 = l := by simpa [bnd] using hl
        subst hl'
        rfl
      | some lv => simp only [dry_bind, dry_pure, Option.bind_some, hb hl]
    | some hv =>
      cases lo with
      | none =>
        have hl' : 0 = l := by simpa [bnd] using hl
        subst hl'
        simp only [dry_bind, dry_pure, Option.bind_some, hb hh]
      | some lv => simp only [dry_bind, dry_pure, Option.bind_some, hb hl, hb hh]
  | some mv =>
    cases hi with
    | none => cases hx
    | some hv =>
      cases lo with
      | none =>
        have hl' : 0 = l := by simpa [bnd] using hl
        subst hl'
        simp only [dry_bind, dry_pure, Option.bind_some, hb hh, hb hm]
      | some lv => simp only [dry_bind, dry_pure, Option.bind_some, hb hl, hb hh, hb hm]

theorem dry_slV {t e : TypeId} {i : TypeInfo} {x v : Value} {lo hi mx : Option Value} (ht : P.underlying t = some (.slice e)) (hi' : P.info? e = some i) (h : slV i.size x lo hi mx = some v) : dry P (Instr.sliceAt t x lo hi mx) = some v := by
  unfold slV at h
  split at h
  · rename_i a len cap
    cases hm : bnd mx cap cap with
    | none => rw [hm] at h; cases h
    | some m =>
      rw [hm, Option.bind_some] at h
      cases hh : bnd hi (hiD mx len) m with
      | none => rw [hh] at h; cases h
      | some hh' =>
        rw [hh, Option.bind_some] at h
        cases hl : bnd lo 0 hh' with
        | none => rw [hl] at h; cases h
        | some l =>
          rw [hl, Option.bind_some] at h
          cases hx : (hi.isNone && mx.isSome) with
          | true => rw [hx] at h; cases h
          | false =>
            rw [hx] at h
            unfold Instr.sliceAt
            rw [dry_bind, dry_underlying, ht, Option.bind_some]
            show dry P (Instr.slice t _ lo hi mx) = _
            unfold Instr.slice
            rw [dry_bind, dry_underlying, ht, Option.bind_some]
            simp only [dry_bind, dry_bounds hm hh hl hx, Option.bind_some, dry_sizeOf, hi', Option.map_some]
            exact h
  · cases h

theorem dry_slT {t : TypeId} {x v : Value} {lo hi : Option Value} (ht : P.underlying t = some .string) (h : slT x lo hi = some v) : dry P (Instr.sliceAt t x lo hi none) = some v := by
  unfold slT at h
  split at h
  · rename_i s
    cases hh : bnd hi s.size s.size with
    | none => rw [hh] at h; cases h
    | some hh' =>
      rw [hh, Option.bind_some] at h
      cases hl : bnd lo 0 hh' with
      | none => rw [hl] at h; cases h
      | some l =>
        rw [hl, Option.bind_some] at h
        unfold Instr.sliceAt
        rw [dry_bind, dry_underlying, ht, Option.bind_some]
        show dry P (Instr.slice t _ lo hi none) = _
        unfold Instr.slice
        rw [dry_bind, dry_underlying, ht, Option.bind_some]
        have := dry_bounds (P := P) (isS := false) (len := s.size) (cap := s.size) (mx := none) (lo := lo) (hi := hi) (m := s.size) rfl hh hl (by simp)
        simp only [Option.isSome_none, Bool.false_eq_true, if_false, dry_bind, dry_pure, Option.bind_some, this]
        exact h
  · cases h

theorem dry_slA {t e : TypeId} {n : Nat} {i : TypeInfo} {x v : Value} {lo hi : Option Value} (ht : P.underlying t = some (.array n e)) (hi' : P.info? e = some i) (h : slA i.size n x lo hi = some v) : dry P (Instr.sliceAt t x lo hi none) = some v := by
  unfold slA at h
  split at h
  · rename_i a
    cases hh : bnd hi n n with
    | none => rw [hh] at h; cases h
    | some hh' =>
      rw [hh, Option.bind_some] at h
      cases hl : bnd lo 0 hh' with
      | none => rw [hl] at h; cases h
      | some l =>
        rw [hl, Option.bind_some] at h
        unfold Instr.sliceAt
        rw [dry_bind, dry_underlying, ht, Option.bind_some]
        have := dry_bounds (P := P) (isS := false) (len := n) (cap := n) (mx := none) (lo := lo) (hi := hi) (m := n) rfl hh hl (by simp)
        simp only [Instr.sureAddr, dry_bind, dry_pure, Option.bind_some, this, dry_sizeOf, hi', Option.map_some]
        exact h
  · cases h

theorem dry_ext {x v : Value} {i : Nat} (h : extV x i = some v) : dry P (Instr.extract x i) = some v := by
  unfold extV at h
  unfold Instr.extract
  split at h
  · rename_i vs
    simp only [h]; rfl
  · cases h

theorem dry_conv {s d : TypeId} {k k' : IntKind} {x v : Value} (hs : P.underlying s = some (.int k')) (hd : P.underlying d = some (.int k)) (h : convV k x = some v) : dry P (convert s d x) = some v := by
  unfold convV at h
  split at h
  · unfold convert
    simp only [dry_bind, dry_underlying, hs, hd, Option.bind_some]
    exact h
  · cases h

theorem dry_mapM {α β : Type} (f : α → Sem β) (g : α → β) : ∀ (l : List α), (∀ a ∈ l, dry P (f a) = some (g a)) → dry P (l.mapM f) = some (l.map g) := by
  intro l
  induction l with
  | nil => intro _; rfl
  | cons a l ih =>
    intro h
    rw [List.mapM_cons, dry_bind, h a (List.mem_cons_self ..), Option.bind_some, dry_bind, ih (fun b hb => h b (List.mem_cons_of_mem _ hb))]
    rfl

theorem dry_zeroValue {t : TypeId} {z : Value} (h : (P.info? t).bind (·.zero) = some z) : dry P (zeroValue t) = some z := by
  unfold zeroValue
  rw [dry_bind, dry_typeInfo]
  cases hi : P.info? t with
  | none => rw [hi] at h; cases h
  | some i =>
    rw [hi] at h
    simp only [Option.bind_some] at h ⊢
    rw [h]; rfl

theorem dry_sizeOf' {t : TypeId} (h : (P.info? t).isSome = true) : dry P (sizeOf t) = some (P.cellsOf t) := by
  rw [dry_sizeOf]
  obtain ⟨i, hi⟩ := Option.isSome_iff_exists.1 h
  simp [Program.cellsOf, hi]

theorem dry_bld {t : TypeId} {z : Value} {fs : Array Field} {parts : List (Nat × Value)} {v : Value} (hz : (P.info? t).bind (·.zero) = some z) (ht : P.underlying t = some (.struct fs)) (hs : ∀ f ∈ fs, (P.info? f.type).isSome = true)
    (h : bldV z.cells (fs.toList.map fun f => (f.offset, P.cellsOf f.type)).toArray parts = some v) : dry P (Instr.build t parts.toArray) = some v := by
  unfold Instr.build
  have e1 : dry P (fs.mapM fun f => (do pure (f.offset, ← sizeOf f.type) : Sem (Nat × Nat))) = some (fs.toList.map fun f => (f.offset, P.cellsOf f.type)).toArray := by
    rw [Array.mapM_eq_mapM_toList]
    show dry P (List.toArray <$> _) = _
    rw [← bind_pure_comp, dry_bind, dry_mapM (g := fun f => (f.offset, P.cellsOf f.type)) _ _ (fun f hf => by rw [dry_bind, dry_sizeOf' (hs f (by simpa using hf))]; rfl)]
    rfl
  rw [dry_bind, dry_zeroValue hz, Option.bind_some, dry_bind, dry_underlying, ht, Option.bind_some]
  simp only []
  rw [dry_bind, e1, Option.bind_some]
  unfold bldV at h
  cases hf : Instr.fill (fun i => ((fs.toList.map fun f => (f.offset, P.cellsOf f.type)).toArray)[i]?) z.cells parts with
  | none => rw [hf] at h; cases h
  | some cs => rw [hf] at h; simp only; exact h

theorem dry_bldA {t e : TypeId} {z : Value} {n : Nat} {parts : List (Nat × Value)} {v : Value} (hz : (P.info? t).bind (·.zero) = some z) (ht : P.underlying t = some (.array n e)) (hs : (P.info? e).isSome = true)
    (h : bldA z.cells (P.cellsOf e) parts = some v) : dry P (Instr.build t parts.toArray) = some v := by
  unfold Instr.build
  rw [dry_bind, dry_zeroValue hz, Option.bind_some, dry_bind, dry_underlying, ht, Option.bind_some]
  simp only []
  rw [dry_bind, dry_sizeOf' hs, Option.bind_some]
  unfold bldA at h
  cases hf : Instr.fill (fun i => some (i * P.cellsOf e, P.cellsOf e)) z.cells parts with
  | none => rw [hf] at h; cases h
  | some cs => rw [hf] at h; simp only; exact h
end
end Go.Bk
