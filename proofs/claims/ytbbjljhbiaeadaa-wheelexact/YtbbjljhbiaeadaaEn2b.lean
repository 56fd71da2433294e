/- The engine, part 2b: memory's primitives, and that an operation's condition is sound. -/
import Derived.Test.YtbbjljhbiaeadaaEn2
set_option linter.unusedSimpArgs false
set_option linter.unusedVariables false
namespace Go.Bk
section
variable {P : Program} {w : World} {K : Value → World → Prop}

theorem look_load (a : Addr) : look P w (load a) = w.cell? a := by
  unfold load
  simp only [look]
  cases w.cell? a <;> rfl

theorem look_loadCells (a : Addr) : ∀ (n i : Nat) (acc : Array Value), look P w (loadCellsFrom a i n acc) = ldC w a i n acc := by
  intro n
  induction n with
  | zero => intro i acc; rfl
  | succ n ih =>
    intro i acc
    unfold loadCellsFrom ldC
    rw [look_bind, look_load]
    cases w.cell? (a.add i) with
    | none => rfl
    | some v => exact ih (i + 1) (acc.push v)

theorem look_ld {t : TypeId} {d : TypeDesc} {i : TypeInfo} {x v : Value} (hd : P.underlying t = some d) (hi : P.info? t = some i) (h : ldV (aggT P t) i.size w x = some v) : look P w (Instr.loadAt t x) = some v := by
  unfold ldV at h
  split at h
  · rename_i a
    show look P w (loadVar t a) = _
    unfold loadVar
    rw [look_bind, look_of_dry _ _ (dry_isAgg hd), Option.bind_some]
    cases ha : aggT P t with
    | true =>
      rw [ha] at h
      simp only [if_true, cond_true] at h ⊢
      have hs : look P w (sizeOf t) = some i.size := look_of_dry _ _ (by rw [dry_sizeOf, hi]; rfl)
      rw [look_bind, hs, Option.bind_some, look_bind]
      show (look P w (loadCellsFrom a 0 i.size #[])).bind _ = _
      rw [look_loadCells]
      cases hl : ldC w a 0 i.size #[] with
      | none => rw [hl] at h; cases h
      | some cs => rw [hl] at h; exact h
    | false =>
      rw [ha] at h
      simp only [Bool.false_eq_true, if_false, cond_false] at h ⊢
      rw [look_load]; exact h
  · cases h

theorem run_storeCells (a : Addr) : ∀ (l : List Value) (i : Nat) (w w' : World), stC w a l i = some w' → (storeCells a l i).run P w = .ok () w' := by
  intro l
  induction l with
  | nil => intro i w w' h; simp only [stC, Option.some.injEq] at h; subst h; rfl
  | cons v r ih =>
    intro i w w' h
    unfold stC at h
    cases hc : w.cell? (a.add i) with
    | none => rw [hc] at h; cases h
    | some u =>
      rw [hc] at h
      simp only at h
      cases hf : (w.frozen? (a.add i) || !oneC v) with
      | true => rw [hf] at h; cases h
      | false =>
        rw [hf] at h
        simp only [cond_false] at h
        simp only [Bool.or_eq_false_iff, Bool.not_eq_false'] at hf
        unfold storeCells
        show (Sem.bind (store (a.add i) v) fun _ => storeCells a r (i + 1)).run P w = _
        rw [Sem.run_bind']
        have e : (store (a.add i) v).run P w = .ok () (w.setCell (a.add i) v) := by
          cases v <;> first | (simp [oneC] at hf; done) | (simp [store, Sem.run, hc, hf.1])
        rw [e]
        exact ih _ _ _ h

theorem run_st {t : TypeId} {i : TypeInfo} {x v : Value} {w' : World} (hi : P.info? t = some i) (h : stE i.size x v w = some w') : (Instr.storeAt t x v).run P w = .ok () w' := by
  unfold stE at h
  split at h
  · rename_i a
    cases hs : Nat.beq v.cells.size i.size with
    | false => rw [hs] at h; cases h
    | true =>
      rw [hs] at h
      have hs := Nat.eq_of_beq_eq_true hs
      show (storeVar t a v).run P w = _
      unfold storeVar
      show (Sem.bind (sizeOf t) fun n => _).run P w = _
      rw [Sem.run_bind', dry_run _ i.size (by rw [dry_sizeOf, hi]; rfl)]
      simp only [Result.andThen]
      rw [if_neg (by simp [hs])]
      exact run_storeCells a _ _ _ _ h
  · cases h

theorem run_of_semE {s : Sem Value} (h : pE (semE P s w) K) : ∃ v w', s.run P w = .ok v w' ∧ K v w' := by
  unfold pE semE at h
  cases hr : s.run P w with
  | ok v w' => rw [hr] at h; exact ⟨v, w', rfl, h⟩
  | halt x w' => rw [hr] at h; exact h.elim

theorem pNext_run {s : Sem Value} {v : Value} {w' : World} (h : s.run P w = .ok v w') (hk : K v w') : pNext P (do pure (Next.value (← s))) w K := by
  unfold pNext; rw [run_v, h]; exact hk

theorem pNext_semE {s : Sem Value} (h : pE (semE P s w) K) : pNext P (do pure (Next.value (← s))) w K := by
  obtain ⟨v, w', hr, hk⟩ := run_of_semE h
  exact pNext_run hr hk

theorem pNext_runU {s : Sem Unit} {w' : World} (h : s.run P w = .ok () w') (hk : K undef w') : pNext P (do s; pure Next.skip) w K := by
  unfold pNext; rw [run_u, h]; exact hk

theorem pNext_semU {s : Sem Unit} (h : pU (semU P s w) (K undef)) : pNext P (do s; pure Next.skip) w K := by
  unfold pU semU at h
  cases hr : s.run P w with
  | ok v w' => rw [hr] at h; exact pNext_runU hr h
  | halt x w' => rw [hr] at h; exact h.elim

theorem of_pV {o : Option Value} {K : Value → Prop} (h : pV o K) : ∃ v, o = some v ∧ K v := by
  cases o with
  | none => exact h.elim
  | some v => exact ⟨v, rfl, h⟩
theorem of_pE {o : Option (Value × World)} (h : pE o K) : ∃ v w', o = some (v, w') ∧ K v w' := by
  cases o with
  | none => exact h.elim
  | some v => exact ⟨v.1, v.2, rfl, h⟩
theorem of_pU {o : Option World} {K : World → Prop} (h : pU o K) : ∃ w', o = some w' ∧ K w' := by
  cases o with
  | none => exact h.elim
  | some v => exact ⟨v, rfl, h⟩

theorem dryV {s : Sem Value} {v : Value} (h : dry P s = some v) : dry P (do pure (Next.value (← s))) = some (.value v) := by
  rw [dry_bind, h]; rfl
theorem lookV {s : Sem Value} {v : Value} (h : look P w s = some v) : look P w (do pure (Next.value (← s))) = some (.value v) := by
  rw [look_bind, h]; rfl

def sayOp (P : Program) (o : Oper) (ρ : Operand → Value) (w : World) (K : Value → World → Prop) : Prop :=
  match cls P o.op with
  | .p => ∃ v, dryOp P o ρ = some v ∧ K v w
  | .r => ∃ v, lookOp P w o ρ = some v ∧ K v w
  | .e => pNext P (execOp ρ o) w K

theorem sayOp_mono {o : Oper} {ρ : Operand → Value} {K' : Value → World → Prop} (h : sayOp P o ρ w K) (hk : ∀ v w', K v w' → K' v w') : sayOp P o ρ w K' := by
  unfold sayOp at *
  cases hc : cls P o.op <;> rw [hc] at h <;> simp only at h ⊢
  · obtain ⟨v, hv, h⟩ := h; exact ⟨v, hv, hk _ _ h⟩
  · obtain ⟨v, hv, h⟩ := h; exact ⟨v, hv, hk _ _ h⟩
  · exact pNext_mono h hk

theorem dryOp_of {o : Oper} {ρ : Operand → Value} {s : Sem Value} (he : execOp ρ o = (do pure (Next.value (← s)))) {q : Option Value} (hs : ∀ v, q = some v → dry P s = some v) (h : pV q fun v => K v w) : ∃ v, dryOp P o ρ = some v ∧ K v w := by
  obtain ⟨v, hv, hk⟩ := of_pV h
  exact ⟨v, by unfold dryOp; rw [he, dryV (hs v hv)], hk⟩
theorem lookOp_of {o : Oper} {ρ : Operand → Value} {s : Sem Value} (he : execOp ρ o = (do pure (Next.value (← s)))) {q : Option Value} (hs : ∀ v, q = some v → look P w s = some v) (h : pV q fun v => K v w) : ∃ v, lookOp P w o ρ = some v ∧ K v w := by
  obtain ⟨v, hv, hk⟩ := of_pV h
  exact ⟨v, by unfold lookOp; rw [he, lookV (hs v hv)], hk⟩

theorem parts_eq (ρ : Operand → Value) (parts : Array (Nat × Operand)) : (parts.toList.map fun p => (p.1, ρ p.2)).toArray = parts.map fun (i, x) => (i, ρ x) := by
  cases parts; simp

/-! a slice made of parts -/
theorem set_mid {α : Type} (p q : List α) (x y : α) : (p ++ x :: q).set p.length y = p ++ y :: q := by
  rw [List.set_append]; simp

theorem set_seg {pre seg post new : List Value} (hl : new.length = seg.length) : ∀ (k : Nat), k ≤ new.length →
    ((new.take k).zipIdx.foldl (fun (cs : Array Value) (x : Value × Nat) => cs.setIfInBounds (pre.length + x.2) x.1) (pre ++ seg ++ post).toArray) = (pre ++ (new.take k ++ seg.drop k) ++ post).toArray := by
  intro k
  induction k with
  | zero => intro _; simp
  | succ k ih =>
    intro hk
    have hlt : k < new.length := by omega
    rw [List.take_succ_eq_append_getElem hlt, List.zipIdx_append, List.foldl_append, ih (by omega)]
    simp only [List.length_take, Nat.min_eq_left (Nat.le_of_lt hlt), List.zipIdx_cons, List.zipIdx_nil, List.foldl_cons, List.foldl_nil, Nat.zero_add]
    have hd : seg.drop k = seg[k] :: seg.drop (k + 1) := List.drop_eq_getElem_cons (by omega)
    rw [hd]
    have hA : (pre ++ new.take k).length = pre.length + k := by simp [Nat.min_eq_left (Nat.le_of_lt hlt)]
    rw [List.setIfInBounds_toArray, show pre ++ (new.take k ++ seg[k] :: seg.drop (k + 1)) ++ post = (pre ++ new.take k) ++ seg[k] :: (seg.drop (k + 1) ++ post) by simp only [List.append_assoc, List.cons_append], ← hA, set_mid]
    simp only [List.append_assoc, List.cons_append, List.nil_append]

theorem fill_row (sz : Nat) : ∀ (vs : List Value) (k : Nat) (pre post : List Value), pre.length = k * sz → post.length = vs.length * sz → (∀ v ∈ vs, v.cells.size = sz) →
    Instr.fill (fun i => some (i * sz, sz)) (pre ++ post).toArray ((vs.zipIdx k).map fun x => (x.2, x.1)) = some (pre ++ (vs.map (·.cells.toList)).flatten).toArray := by
  intro vs
  induction vs with
  | nil => intro k pre post _ hp _; have : post = [] := List.eq_nil_of_length_eq_zero (by simpa using hp); subst this; simp [Instr.fill]
  | cons v vs ih =>
    intro k pre post hpre hpost hv
    have hvs : v.cells.size = sz := hv v (List.mem_cons_self ..)
    simp only [List.zipIdx_cons, List.map_cons, Instr.fill]
    have hpl : post.length = sz + vs.length * sz := by rw [hpost, List.length_cons, Nat.add_mul]; omega
    have hb : (decide (v.cells.size ≠ sz) || decide (k * sz + v.cells.size > (pre ++ post).toArray.size)) = false := by
      simp only [hvs, ne_eq, not_true_eq_false, decide_false, Bool.false_or, decide_eq_false_iff_not]
      simp only [List.size_toArray, List.length_append, hpre, hpl]; omega
    rw [hb]
    simp only [Bool.false_eq_true, if_false]
    have hseg := set_seg (pre := pre) (seg := post.take sz) (post := post.drop sz) (new := v.cells.toList) (by simp [hvs, hpl]) v.cells.toList.length (Nat.le_refl _)
    rw [List.take_length, List.append_assoc pre, List.take_append_drop] at hseg
    have hz : v.cells.zipIdx.foldl (fun cs (c, j) => cs.setIfInBounds (k * sz + j) c) (pre ++ post).toArray = (pre ++ v.cells.toList ++ post.drop sz).toArray := by
      rw [← Array.foldl_toList, Array.toList_zipIdx]
      rw [← hpre]
      have hdrop : List.drop v.cells.toList.length (List.take sz post) = [] := by
        apply List.drop_eq_nil_of_le; simp [hvs]; omega
      rw [hdrop] at hseg
      simpa using hseg
    rw [hz]
    have := ih (k + 1) (pre ++ v.cells.toList) (post.drop sz) (by simp [hpre, hvs, Nat.add_mul]) (by simp [hpl]) (fun u hu => hv u (List.mem_cons_of_mem _ hu))
    rw [this]
    simp

theorem run_mk {t e n : Nat} {ie : TypeInfo} {z : Value} {parts : List (Nat × Value)} {v : Value} {w' : World} (ht : P.underlying t = some (.slice e)) (hi : P.info? e = some ie) (hz : ie.zero = some z) (hn : n * ie.size ≤ 16777216)
    (hp : parts.map (·.1) = List.range n) (h : mkE e ie.size (parts.map (·.2)) w = some (v, w')) : (Instr.buildSlice t n parts.toArray).run P w = .ok v w' := by
  unfold mkE at h
  cases hall : (parts.map (·.2)).all fun v => Nat.beq v.cells.size ie.size with
  | false => rw [hall] at h; cases h
  | true =>
    rw [hall] at h
    simp only [cond_true, Option.some.injEq, Prod.mk.injEq] at h
    obtain ⟨rfl, rfl⟩ := h
    have hlen : parts.length = n := by have := congrArg List.length hp; simpa using this
    have hvs : ∀ v ∈ parts.map (·.2), v.cells.size = ie.size := fun v hv => by
      rw [List.all_eq_true] at hall
      exact Nat.eq_of_beq_eq_true (hall v hv)
    have hparts : parts = ((parts.map (·.2)).zipIdx 0).map fun x => (x.2, x.1) := by
      apply List.ext_getElem
      · simp
      · intro i h1 h2
        have : (parts.map (·.1))[i]? = (List.range n)[i]? := by rw [hp]
        simp [h1, show i < n by omega] at this
        simp; exact Prod.ext this rfl
    have hcells : ∀ (Z : Array Value), Z.size = n * ie.size → Instr.fill (fun i => some (i * ie.size, ie.size)) Z parts = some ((parts.map (·.2)).map (·.cells.toList)).flatten.toArray := by
      intro Z hZ
      have := fill_row ie.size (parts.map (·.2)) 0 [] Z.toList (by simp) (by simp [hZ, hlen]) hvs
      rw [← hparts] at this
      simpa using this
    unfold Instr.buildSlice
    have hd : dry P (zeroValue e) = some z := dry_zeroValue (by rw [hi]; exact hz)
    have h1 := dry_run (P := P) (underlying t) _ (by rw [dry_underlying, ht]) w
    have h2 := dry_run (P := P) (sizeOf e) ie.size (by rw [dry_sizeOf, hi]; rfl) w
    have h3 := dry_run (P := P) (zeroValue e) z hd w
    show (Sem.bind (underlying t) _).run P w = _
    rw [Sem.run_bind', h1]
    simp only [Result.andThen]
    show (Sem.bind (sizeOf e) _).run P w = _
    rw [Sem.run_bind', h2]
    simp only [Result.andThen]
    rw [if_neg (by omega)]
    by_cases h0 : n * ie.size = 0
    · rw [if_pos h0]
      simp only [Sem.run_bind, Sem.run_pure, Result.andThen]
      rw [hcells _ (by simp)]
      rw [show (parts.map (·.2)).length = n by simp [hlen]]; rfl
    · rw [if_neg h0]
      simp only [Sem.run_bind, h3, Sem.run_pure, Result.andThen]
      rw [hcells _ (by simp)]
      rw [show (parts.map (·.2)).length = n by simp [hlen]]; rfl

theorem dry_nilC {o : Oper} {ρ : Operand → Value} {x : Operand} (ho : o.op = .nilCheck x) (h : pV (nilC (ρ x)) fun v => K v w) : ∃ v, dryOp P o ρ = some v ∧ K v w := by
  obtain ⟨v, hv, hk⟩ := of_pV h
  refine ⟨v, ?_, hk⟩
  obtain ⟨dst, op, type, pos, after, guard⟩ := o
  subst ho
  unfold nilC at hv
  unfold dryOp execOp
  split at hv <;> rename_i he <;> first | (cases hv; done) | (cases hv; simp only [he]; rfl)

theorem sayOp_of (o : Oper) (ρ : Operand → Value) (hρ : ∀ g, ρ (.func g) = .func (.func g) #[] #[]) (h : vcOp P o.op o.type ρ w K) : sayOp P o ρ w K := by
  obtain ⟨dst, op, type, pos, after, guard⟩ := o
  simp only at h
  cases op <;> simp only [vcOp] at h <;> try exact h.elim
  case move x => exact ⟨ρ x, rfl, h⟩
  case assign x => exact ⟨ρ x, rfl, h⟩
  case pick c a b =>
    obtain ⟨v, hv, hk⟩ := of_pV h
    refine ⟨v, ?_, hk⟩
    unfold pickV at hv
    split at hv <;> rename_i he
    · cases hv
      simp only [dryOp, execOp, he, asBool]
      rename_i t; cases t <;> rfl
    · cases hv
  case binOp op t x y yt =>
    have he : execOp ρ ⟨dst, .binOp op t x y yt, type, pos, after, guard⟩ = (do pure (Next.value (← eqS op t (isC x) (isC y) (ρ x) (ρ y)))) := by simp only [execOp]; rw [← eqS_eq]
    split at h <;> rename_i ht
    · exact dryOp_of he (fun v hv => dry_bool ht hv) h
    · exact dryOp_of he (fun v hv => dry_int hv) h
    · exact dryOp_of he (fun v hv => dry_int hv) h
    · exact dryOp_of he (fun v hv => dry_nilS ht hv) h
    · exact dryOp_of he (fun v hv => dry_nilM ht hv) h
    · exact dryOp_of he (fun v hv => dry_nilF ht hv) h
    · cases hc : (isC x || isC y) <;> simp only [hc, cond_true, cond_false] at h
      · exact dryOp_of he (fun v hv => hv) h
      · exact dryOp_of he (fun v hv => dry_nilP ht hv) h
    · cases hc : (isC x || isC y) <;> simp only [hc, cond_true, cond_false] at h
      · exact dryOp_of he (fun v hv => hv) h
      · exact dryOp_of he (fun v hv => dry_nilI hc ht hv) h
    · exact dryOp_of he (fun v hv => hv) h
  case unOp op t x => exact dryOp_of (s := Op.unary op (ρ x)) rfl (fun v hv => dry_un hv) h
  case indexAddr t x i =>
    split at h <;> rename_i ht
    · split at h <;> rename_i hi
      · exact dryOp_of (s := Instr.indexAt t (ρ x) (ρ i)) rfl (fun v hv => dry_idx ht hi hv) h
      · exact h.elim
    · split at h <;> rename_i hi
      · exact dryOp_of (s := Instr.indexAt t (ρ x) (ρ i)) rfl (fun v hv => dry_idxA ht hi hv) h
      · exact h.elim
    · exact h.elim
  case fieldAddr s x f =>
    split at h <;> rename_i ht
    · split at h <;> rename_i hf
      · split at h <;> rename_i hi
        · rename_i i
          cases hz : Nat.beq i.size 0 <;> simp only [hz, cond_true, cond_false] at h
          exact dryOp_of (s := Instr.fieldAt s (ρ x) f) rfl (fun v hv => dry_fld ht hf hi hz hv) h
        · exact h.elim
      · exact h.elim
    · exact h.elim
  case field t x f =>
    split at h <;> rename_i ht
    · split at h <;> rename_i hf
      · split at h <;> rename_i hi hd
        · exact dryOp_of (s := Instr.field t (ρ x) f) rfl (fun v hv => dry_field ht hf hd hi hv) h
        · exact h.elim
      · exact h.elim
    · exact h.elim
  case index t x i =>
    split at h <;> rename_i ht
    · split at h <;> rename_i hi hd
      · exact dryOp_of (s := Instr.index t (ρ x) (ρ i)) rfl (fun v hv => dry_idxG ht hd hi hv) h
      · exact h.elim
    · exact dryOp_of (s := Instr.index t (ρ x) (ρ i)) rfl (fun v hv => dry_idxT ht hv) h
    · exact h.elim
  case slice t x lo hi mx =>
    split at h <;> rename_i ht
    · split at h <;> rename_i hi
      · exact dryOp_of (s := Instr.sliceAt t (ρ x) (lo.map ρ) (_) (mx.map ρ)) rfl (fun v hv => dry_slV ht hi hv) h
      · exact h.elim
    · cases mx with
      | some m => exact h.elim
      | none => exact dryOp_of (s := Instr.sliceAt t (ρ x) (lo.map ρ) (hi.map ρ) none) rfl (fun v hv => dry_slT ht hv) h
    · split at h <;> rename_i hi'
      · cases mx with
        | some m => exact h.elim
        | none => exact dryOp_of (s := Instr.sliceAt t (ρ x) (lo.map ρ) (hi.map ρ) none) rfl (fun v hv => dry_slA ht hi' hv) h
      · exact h.elim
    · exact h.elim
  case extract t i => exact dryOp_of (s := Instr.extract (ρ t) i) rfl (fun v hv => dry_ext hv) h
  case makeInterface t x =>
    cases ht : P.underlying t with
    | none => rw [ht] at h; exact h.elim
    | some d =>
      have hne : ∀ ms, d ≠ .interface ms := fun ms e => by subst e; rw [ht] at h; exact h
      have hk : K (.iface t (ρ x)) w := by
        rw [ht] at h
        cases d <;> first | exact h | exact h.elim
      refine ⟨_, ?_, hk⟩
      have : dry P (Instr.makeInterface t (ρ x)) = some (.iface t (ρ x)) := by
        unfold Instr.makeInterface
        rw [dry_bind, dry_underlying, ht, Option.bind_some]
        cases d <;> first | rfl | exact absurd rfl (hne _)
      unfold dryOp
      rw [show execOp ρ ⟨dst, .makeInterface t x, type, pos, after, guard⟩ = (do pure (Next.value (← Instr.makeInterface t (ρ x)))) from rfl, dryV this]
  case makeFunc fn first captured => exact ⟨_, by simp only [dryOp, execOp, Instr.makeFunc, map_eq]; rfl, h⟩
  case build t parts =>
    have he : execOp ρ ⟨dst, .build t parts, type, pos, after, guard⟩ = (do pure (Next.value (← Instr.build t (parts.toList.map fun p => (p.1, ρ p.2)).toArray))) := by rw [parts_eq]; rfl
    cases hz : (P.info? t).bind (·.zero) with
    | none => rw [hz] at h; exact h.elim
    | some z =>
      rw [hz] at h
      simp only at h
      cases ht : P.underlying t with
      | none => rw [ht] at h; exact h.elim
      | some d =>
        rw [ht] at h
        cases d <;> simp only at h <;> try exact h.elim
        · rename_i n e
          cases hs : (P.info? e).isSome <;> simp only [hs, cond_true, cond_false] at h
          exact dryOp_of he (fun v hv => dry_bldA hz ht hs hv) h
        · rename_i fs
          cases hs : fs.toList.all (fun f => (P.info? f.type).isSome) <;> simp only [hs, cond_true, cond_false] at h
          refine dryOp_of he (fun v hv => dry_bld hz ht (fun f hf => ?_) hv) h
          rw [List.all_eq_true] at hs
          exact hs f (by simpa using hf)
  case convert s d x =>
    have hconv : pE (semE P (convert s d (ρ x)) w) K → pNext P (execOp ρ ⟨dst, .convert s d x, type, pos, after, guard⟩) w K := fun h => pNext_semE h
    simp only [sayOp, cls, isInt]
    split at h
    · rename_i k' k hs hd
      rw [hs, hd]
      exact dryOp_of (s := convert s d (ρ x)) rfl (fun v hv => dry_conv hs hd hv) h
    · rename_i hne
      have : (isInt P s && isInt P d) = false := by
        unfold isInt
        cases hs : P.underlying s with
        | none => rfl
        | some ds =>
          cases hd : P.underlying d with
          | none => cases ds <;> rfl
          | some dd => cases ds <;> first | rfl | (cases dd <;> first | rfl | exact (hne _ _ hs hd).elim)
      unfold isInt at this
      rw [this]
      exact hconv h
  case load t x =>
    split at h
    · rename_i i d hi hd
      exact lookOp_of (s := Instr.loadAt t (ρ x)) rfl (fun v hv => look_ld hd hi hv) h
    · exact h.elim
  case lookup t x i ok => exact lookOp_of (s := Instr.lookup t (ρ x) (ρ i) ok) rfl (fun v hv => hv) h
  case alloc t =>
    cases hz : (P.info? t).bind (·.zero) with
    | none => rw [hz] at h; exact h.elim
    | some z =>
      rw [hz] at h
      obtain ⟨v, w', hb, hk⟩ := of_pE h
      cases hb
      refine pNext_run (s := Instr.alloc t true (.tuple #[])) ?_ hk
      show (Sem.bind (zeroValue t) _).run P w = _
      rw [Sem.run_bind', dry_run _ _ (dry_zeroValue hz) w]
      rfl
  case box t x =>
    obtain ⟨v, w', hb, hk⟩ := of_pE h
    cases hb
    exact pNext_run (P := P) (s := Instr.box t (ρ x)) rfl hk
  case buildSlice t n parts =>
    have he : execOp ρ ⟨dst, .buildSlice t n parts, type, pos, after, guard⟩ = (do pure (Next.value (← Instr.buildSlice t n (parts.toList.map fun p => (p.1, ρ p.2)).toArray))) := by rw [parts_eq]; rfl
    simp only [sayOp, cls]
    rw [he]
    cases ht : P.underlying t with
    | none => rw [ht] at h; exact h.elim
    | some d =>
      rw [ht] at h
      cases d <;> simp only at h <;> try exact h.elim
      rename_i e
      cases hi : P.info? e with
      | none => rw [hi] at h; exact h.elim
      | some ie =>
        rw [hi] at h
        simp only at h
        cases hc : (Nat.ble (n * ie.size) 16777216 && (parts.toList.map (·.1) == List.range n) && ie.zero.isSome) <;> rw [hc] at h <;> simp only [cond_true, cond_false] at h
        · exact pNext_semE h
        · simp only [Bool.and_eq_true] at hc
          obtain ⟨z, hz⟩ := Option.isSome_iff_exists.1 hc.2
          obtain ⟨v, w', hb, hk⟩ := of_pE h
          refine pNext_run (run_mk (z := z) ht hi hz (Nat.le_of_ble_eq_true hc.1.1) ?_ ?_) hk
          · have := hc.1.2
            simp only [beq_iff_eq] at this
            rw [← this]; simp
          · rw [← hb]; simp only [List.map_map]; rfl
  case makeSlice t l c => exact pNext_semE h
  case makeMap t r =>
    cases r with
    | none =>
      obtain ⟨v, w', hb, hk⟩ := of_pE h
      cases hb
      exact pNext_run (P := P) (s := Instr.makeMap t none) rfl hk
    | some r => exact pNext_semE h
  case store t a x =>
    cases hi : P.info? t with
    | none => rw [hi] at h; exact h.elim
    | some i =>
      rw [hi] at h
      obtain ⟨w', hb, hk⟩ := of_pU h
      exact pNext_runU (s := Instr.storeAt t (ρ a) (ρ x)) (run_st hi hb) hk
  case mapUpdate => exact pNext_semU h
  case insert => exact pNext_semU h
  case mapEntry => exact pNext_semE h
  case entryStore => exact pNext_semU h
  case range => exact pNext_semE h
  case next => exact pNext_semE h
  case entry => exact pNext_semE h
  case typeAssert => exact pNext_semE h
  case nilCheck x => exact dry_nilC rfl h
  case call c =>
    obtain ⟨callee, args, argTypes⟩ := c
    cases callee with
    | builtin b =>
      cases b <;> simp only at h <;> try exact h.elim
      case len =>
        obtain ⟨args⟩ := args
        obtain ⟨argTypes⟩ := argTypes
        match argTypes, args, h with
        | [t0], [x], h =>
          simp only [sayOp, cls, isLen]
          have he : execOp ρ ⟨dst, .call ⟨.builtin .len, ⟨[x]⟩, ⟨[t0]⟩⟩, type, pos, after, guard⟩ = (do pure (Next.value (← Builtin.len_ #[t0] type #[ρ x]))) := by
            show (do pure (Next.value (← Builtin.len_ #[t0] type ((⟨[x]⟩ : Array Operand).map ρ))) : Sem Next) = _
            rw [show (⟨[x]⟩ : Array Operand).map ρ = #[ρ x] by simp]
          have e0 : ∀ (l : Array TypeId), l = ⟨[t0]⟩ → l.getD 0 0 = t0 := fun l hl => by subst hl; rfl
          rw [e0 _ rfl]
          cases ht : P.underlying t0 with
          | none => simp only [ht] at h ⊢; exact lookOp_of he (fun v hv => hv) h
          | some d =>
            cases d <;> simp only [ht, cond_true, cond_false] at h ⊢ <;> first
              | exact lookOp_of he (fun v hv => hv) h
              | skip
            · refine dryOp_of he (fun v hv => ?_) h
              generalize ρ x = y at hv ⊢
              unfold lenT at hv
              split at hv <;> first | (cases hv; done) | skip
              unfold Builtin.len_
              simp only [List.getElem?_toArray, List.getElem?_cons_zero, dry_bind, dry_underlying, ht, Option.bind_some]
              exact hv
            · refine dryOp_of he (fun v hv => ?_) h
              generalize ρ x = y at hv ⊢
              unfold lenS at hv
              split at hv <;> first | (cases hv; done) | skip
              unfold Builtin.len_
              simp only [List.getElem?_toArray, List.getElem?_cons_zero, dry_bind, dry_underlying, ht, Option.bind_some]
              exact hv
            · rename_i n e
              refine dryOp_of (q := some (.int .i64 n)) he (fun v hv => ?_) h
              cases hv
              unfold Builtin.len_
              simp only [List.getElem?_toArray, List.getElem?_cons_zero, dry_bind, dry_underlying, ht, Option.bind_some]
              cases ρ x <;> rfl
      case cap =>
        obtain ⟨args⟩ := args
        obtain ⟨argTypes⟩ := argTypes
        match argTypes, args, h with
        | [t0], [x], h =>
          have he : execOp ρ ⟨dst, .call ⟨.builtin .cap, ⟨[x]⟩, ⟨[t0]⟩⟩, type, pos, after, guard⟩ = (do pure (Next.value (← Builtin.cap_ #[t0] type #[ρ x]))) := by
            show (do pure (Next.value (← Builtin.cap_ #[t0] type ((⟨[x]⟩ : Array Operand).map ρ))) : Sem Next) = _
            rw [show (⟨[x]⟩ : Array Operand).map ρ = #[ρ x] by simp]
          cases ht : P.underlying t0 with
          | none => simp only [ht] at h
          | some d =>
            cases d <;> simp only [ht] at h
            refine dryOp_of he (fun v hv => ?_) h
            generalize ρ x = y at hv ⊢
            unfold capS at hv
            split at hv <;> first | (cases hv; done) | skip
            unfold Builtin.cap_
            simp only [List.getElem?_toArray, List.getElem?_cons_zero, dry_bind, dry_underlying, ht, Option.bind_some]
            exact hv
      case min => rw [map_eq] at h; exact dryOp_of (s := Builtin.min_ argTypes type (args.map ρ)) rfl (fun v hv => hv) h
      case max => rw [map_eq] at h; exact dryOp_of (s := Builtin.max_ argTypes type (args.map ρ)) rfl (fun v hv => hv) h
      case append => rw [map_eq] at h; exact pNext_semE h
      case copy => rw [map_eq] at h; exact pNext_semE h
      case delete => rw [map_eq] at h; exact pNext_semE h
      case clear => rw [map_eq] at h; exact pNext_semE h
    | value f =>
      simp only [sayOp, cls]
      cases f with
      | func g =>
        simp only [pCall, map_eq] at h
        have e : execOp ρ ⟨dst, .call ⟨.value (.func g), args, argTypes⟩, type, pos, after, guard⟩ = callFunc g (args.map ρ) := by
          simp only [execOp, resolve, hρ, Deferred.ofValue, Array.empty_append]
          show invoke (.fn (.func g) #[]) (args.map ρ) = _
          simp only [invoke, Array.append_empty]
        rw [e]; exact h
      | _ => simp only [pCallV, map_eq] at h; exact h
    | invoke r m =>
      have e : execOp ρ ⟨dst, .call ⟨.invoke r m, args, argTypes⟩, type, pos, after, guard⟩ = invoke (.fn (.method m) #[]) (ρ r :: args.toList.map ρ).toArray := by
        show invoke (.fn (.method m) #[]) (#[ρ r] ++ args.map ρ) = _
        congr 1
        rw [← map_eq]; simp
      simp only [sayOp, cls]
      rw [e]; exact h
end
end Go.Bk
