/- The engine, part 3, more: loads that come ahead of effects which must keep them; any order of the operations. -/
import Derived.Test.YtbbjljhbiaeadaaEn3
set_option linter.unusedSimpArgs false
set_option linter.unusedVariables false
namespace Go.Bk
section
variable {P : Program} {ops : Array Oper} {w : World}

/-- What the loads rs tell is the same in both worlds. -/
def Keep (P : Program) (ops : Array Oper) (rs : List Nat) (a : Act) (w w' : World) : Prop := ∀ r ∈ rs, ∀ o, ops[r]? = some o → lookOp P w' o a.eval = lookOp P w o a.eval

def m1k (P : Program) (ops : Array Oper) (i : Nat) (rs : List Nat) (K : Act → World → Prop) (a : Act) (w : World) : Prop :=
  match ops[i]? with
  | none => K a w
  | some o => if Region.wanted o (yielded ops a.tmps) = true then sayOp P o a.eval w (fun v w' => Keep P ops rs a w w' ∧ K (a.put o.dst v) w') else K (a.put o.dst undef) w

def mRunK (P : Program) (ops : Array Oper) : List (Nat × List Nat) → (Act → World → Prop) → Act → World → Prop
  | [], K => K
  | (i, rs) :: r, K => m1k P ops i rs (mRunK P ops r K)

theorem m1k_mono {i : Nat} {rs rs' : List Nat} {K K' : Act → World → Prop} {a : Act} (h : m1k P ops i rs K a w) (hs : ∀ r ∈ rs', r ∈ rs) (hk : ∀ a w, K a w → K' a w) : m1k P ops i rs' K' a w := by
  unfold m1k at *
  split
  · rename_i ho; rw [ho] at h; exact hk _ _ h
  · rename_i o ho
    rw [ho] at h
    simp only at h ⊢
    split
    · rename_i hw; rw [if_pos hw] at h; exact sayOp_mono h (fun v w' hv => ⟨fun r hr => hv.1 r (hs r hr), hk _ _ hv.2⟩)
    · rename_i hw; rw [if_neg hw] at h; exact hk _ _ h
theorem m1k_m1 {i : Nat} {rs : List Nat} {K : Act → World → Prop} {a : Act} (h : m1k P ops i rs K a w) : m1 P ops i K a w := by
  unfold m1k m1 at *
  split
  · rename_i ho; rw [ho] at h; exact h
  · rename_i o ho
    rw [ho] at h
    simp only at h ⊢
    split
    · rename_i hw; rw [if_pos hw] at h; exact sayOp_mono h (fun v w' hv => hv.2)
    · rename_i hw; rw [if_neg hw] at h; exact h
theorem mRunK_mono {l : List (Nat × List Nat)} : ∀ {K K' : Act → World → Prop} {a : Act} {w : World}, mRunK P ops l K a w → (∀ a w, K a w → K' a w) → mRunK P ops l K' a w := by
  induction l with
  | nil => intro K K' a w h hk; exact hk _ _ h
  | cons i r ih => intro K K' a w h hk; exact m1k_mono h (fun _ h => h) (fun a w h => ih h hk)
theorem mRunK_append (l r : List (Nat × List Nat)) (K : Act → World → Prop) : mRunK P ops (l ++ r) K = mRunK P ops l (mRunK P ops r K) := by
  induction l with
  | nil => rfl
  | cons i l ih => obtain ⟨i, rs⟩ := i; simp only [List.cons_append, mRunK, ih]

theorem m1k_split {i : Nat} {o : Oper} {rs : List Nat} (ho : ops[i]? = some o) {K : Act → World → Prop} {a : Act} :
    m1k P ops i rs K a w ↔ (∃ v, Still P ops o w v a ∧ K (a.put o.dst v) w) ∨ (Eff P ops o a ∧ pNext P (execOp a.eval o) w (fun v w' => Keep P ops rs a w w' ∧ K (a.put o.dst v) w')) := by
  have hk : Keep P ops rs a w w := fun _ _ _ _ => rfl
  unfold m1k Still Eff
  rw [ho]
  simp only
  cases hw : Region.wanted o (yielded ops a.tmps) with
  | false => simp
  | true =>
    simp only [if_true, sayOp]
    cases hc : cls P o.op <;> simp [hk]

/-- What o looks at is not written by x. -/
def farFrom (ops : Array Oper) (x o : Oper) : Prop := ∀ d, x.dst = some d → d ∉ o.looksAt ops

theorem Keep.put {rs : List Nat} {a : Act} {w w' : World} {x : Oper} {v : Value} (hs : ∀ r ∈ rs, ∀ o, ops[r]? = some o → (∀ cs b, o.op ≠ .select cs b) ∧ farFrom ops x o) : Keep P ops rs (a.put x.dst v) w w' ↔ Keep P ops rs a w w' := by
  unfold Keep lookOp
  constructor <;> intro h r hr o ho
  · have := h r hr o ho
    rw [execOp_put o (hs r hr o ho).1 a x.dst v (hs r hr o ho).2] at this
    exact this
  · have := h r hr o ho
    rw [execOp_put o (hs r hr o ho).1 a x.dst v (hs r hr o ho).2]
    exact this

/-- i may be told ahead of j: they agree in any order. -/
theorem crossA {i j : Nat} {oi oj : Oper} {s sj : List Nat} (hi : ops[i]? = some oi) (hj : ops[j]? = some oj) (hsel : ∀ (k : Nat) (o : Oper), ops[k]? = some o → ∀ cs b, o.op ≠ .select cs b)
    (hc : compat P ops oi oj = true) (h1s : ∀ r ∈ sj, ∀ o, ops[r]? = some o → farFrom ops oi o) (h2s : ∀ r ∈ s, ∀ o, ops[r]? = some o → farFrom ops oj o)
    {K : Act → World → Prop} {a : Act} (h : m1k P ops j sj (m1k P ops i s K) a w) : m1k P ops i s (m1k P ops j sj K) a w := by
  have hsi := hsel i oi hi
  have hsj := hsel j oj hj
  have hcl := compat_cls hc
  have hap : oi.apart ops oj = true := by simp only [compat, Bool.and_eq_true] at hc; exact hc.1.1
  obtain ⟨h1, h2, h3⟩ := Oper.apart_spec hap
  have comm : ∀ u v, (a.put oi.dst u).put oj.dst v = (a.put oj.dst v).put oi.dst u := fun u v => Act.put_comm a u v h2
  rw [m1k_split hj] at h
  rw [m1k_split hi]
  rcases h with ⟨v, hv, h⟩ | ⟨he, h⟩
  · rw [m1k_split hi] at h
    rcases h with ⟨u, hu, h⟩ | ⟨heu, h⟩
    · have hu' := hu.unput hsi h3
      refine .inl ⟨u, hu', ?_⟩
      rw [m1k_split hj]
      exact .inl ⟨v, hv.put hsj h1, by rw [comm]; exact h⟩
    · rw [Eff.put h3] at heu
      refine .inr ⟨heu, ?_⟩
      rw [execOp_put oi hsi a oj.dst v h3] at h
      refine pNext_mono h (fun u w' hk => ⟨(Keep.put (fun r hr o ho => ⟨hsel r o ho, h2s r hr o ho⟩)).1 hk.1, ?_⟩)
      rw [m1k_split hj]
      refine .inl ⟨v, ?_, by rw [comm]; exact hk.2⟩
      refine Still.put hsj (Still.world ?_ hv) h1
      intro hr
      rcases hcl with (hx | hx) | ⟨hx, _⟩
      · rw [heu.2] at hx; cases hx
      · rw [hr] at hx; cases hx
      · rw [heu.2] at hx; cases hx
  · obtain ⟨v0, w0, h0⟩ := pNext_ex h
    have hci : cls P oi.op ≠ .r := by
      intro hr
      rcases hcl with (hx | hx) | ⟨_, hx⟩
      · rw [hr] at hx; cases hx
      · rw [he.2] at hx; cases hx
      · rw [he.2] at hx; cases hx
    have h0 := h0.2
    rw [m1k_split hi] at h0
    rcases h0 with ⟨u, hu, h0⟩ | ⟨heu, h0⟩
    · have hu' := (hu.unput hsi h3).world hci (w' := w)
      refine .inl ⟨u, hu', ?_⟩
      rw [m1k_split hj]
      refine .inr ⟨(Eff.put h1).2 he, ?_⟩
      rw [execOp_put oj hsj a oi.dst u h1]
      refine pNext_mono h (fun v w' hk => ⟨(Keep.put (fun r hr o ho => ⟨hsel r o ho, h1s r hr o ho⟩)).2 hk.1, ?_⟩)
      have hk := hk.2
      rw [m1k_split hi] at hk
      rcases hk with ⟨u', hu2, hk⟩ | ⟨heu, hk⟩
      · have : u' = u := ((hu2.unput hsi h3).world hci (w' := w)).eq hu'
        subst this
        rw [comm]; exact hk
      · rw [Eff.put h3] at heu
        rcases hcl with (hx | hx) | ⟨hx, _⟩
        · rw [heu.2] at hx; cases hx
        · rw [he.2] at hx; cases hx
        · rw [heu.2] at hx; cases hx
    · rw [Eff.put h3] at heu
      rcases hcl with (hx | hx) | ⟨hx, _⟩
      · rw [heu.2] at hx; cases hx
      · rw [he.2] at hx; cases hx
      · rw [heu.2] at hx; cases hx

/-- i, an effect that keeps what j loads, told ahead of j. -/
theorem crossB {i j : Nat} {oi oj : Oper} {s s' sj : List Nat} (hi : ops[i]? = some oi) (hj : ops[j]? = some oj) (hsel : ∀ (k : Nat) (o : Oper), ops[k]? = some o → ∀ cs b, o.op ≠ .select cs b)
    (hci : cls P oi.op = .e) (hcj : cls P oj.op = .r) (hap : oi.apart ops oj = true) (hjs : j ∈ s) (hss : ∀ r ∈ s', r ∈ s) (hjj : farFrom ops oj oj) (h2s : ∀ r ∈ s', ∀ o, ops[r]? = some o → farFrom ops oj o)
    {K : Act → World → Prop} {a : Act} (h : m1k P ops j sj (m1k P ops i s K) a w) : m1k P ops i s' (m1k P ops j sj K) a w := by
  have hsi := hsel i oi hi
  have hsj := hsel j oj hj
  obtain ⟨h1, h2, h3⟩ := Oper.apart_spec hap
  have comm : ∀ u v, (a.put oi.dst u).put oj.dst v = (a.put oj.dst v).put oi.dst u := fun u v => Act.put_comm a u v h2
  rw [m1k_split hj] at h
  rw [m1k_split hi]
  rcases h with ⟨v, hv, h⟩ | ⟨he, _⟩
  · rw [m1k_split hi] at h
    rcases h with ⟨u, hu, h⟩ | ⟨heu, h⟩
    · have hu' := hu.unput hsi h3
      refine .inl ⟨u, hu', ?_⟩
      rw [m1k_split hj]
      exact .inl ⟨v, hv.put hsj h1, by rw [comm]; exact h⟩
    · rw [Eff.put h3] at heu
      refine .inr ⟨heu, ?_⟩
      rw [execOp_put oi hsi a oj.dst v h3] at h
      refine pNext_mono h (fun u w' hk => ⟨fun r hr => ?_, ?_⟩)
      · exact (Keep.put (rs := s') (x := oj) (v := v) (fun r hr o ho => ⟨hsel r o ho, h2s r hr o ho⟩)).1 (fun r hr => hk.1 r (hss r hr)) r hr
      · rw [m1k_split hj]
        refine .inl ⟨v, ?_, by rw [comm]; exact hk.2⟩
        have hkj := hk.1 j hjs oj hj
        unfold lookOp at hkj
        rw [execOp_put oj hsj a oj.dst v hjj] at hkj
        have hv' : Still P ops oj w' v a := by
          unfold Still lookOp at *
          rcases hv with ⟨hw, ⟨hx, _⟩ | ⟨hx, hy⟩⟩ | hv
          · rw [hcj] at hx; cases hx
          · exact .inl ⟨hw, .inr ⟨hx, hkj.trans hy⟩⟩
          · exact .inr hv
        exact hv'.put hsj h1
  · rw [he.2] at hcj; cases hcj

def isE : Cls → Bool | .e => true | _ => false
def isR : Cls → Bool | .r => true | _ => false
def farB (ops : Array Oper) (x o : Oper) : Bool := match x.dst with | none => true | some d => !(mem d (o.looksAt ops))
theorem farB_far {x o : Oper} (h : farB ops x o = true) : farFrom ops x o := by
  intro d hd hm
  simp only [farB, hd] at h
  rw [mem_iff.2 hm] at h
  cases h
def farI (ops : Array Oper) (x : Oper) (r : Nat) : Bool := match ops[r]? with | some o => farB ops x o | none => true
theorem farI_far {x : Oper} {r : Nat} (h : farI ops x r = true) : ∀ o, ops[r]? = some o → farFrom ops x o := by
  intro o ho
  simp only [farI, ho] at h
  exact farB_far h
def names (l : List (Nat × List Nat)) : List Nat := l.map (·.1)
/-- s without what stands in l. -/
def lessK (s : List Nat) (l : List (Nat × List Nat)) : List Nat := s.filter fun r => !(mem r (names l))

/-- i may be told ahead of those of l that it does not wait for. -/
def okX (P : Program) (ops : Array Oper) (m i : Nat) (oi : Oper) (s : List Nat) : List (Nat × List Nat) → Bool
  | [] => true
  | (j, sj) :: l => okX P ops m i oi s l &&
    (bit m j || (match ops[j]? with
     | none => false
     | some oj =>
       ((lessK s l).all fun r => Nat.beq r j || farI ops oj r) &&
       ((compat P ops oi oj && sj.all fun r => bit m r || farI ops oi r) ||
        (isE (cls P oi.op) && isR (cls P oj.op) && oi.apart ops oj && mem j (lessK s l) && farB ops oj oj))))

def un (listed : Array Bool) (r : Nat) : Bool := !listed.getD r true
def unK (listed : Array Bool) (L : List (Nat × List Nat)) : List (Nat × List Nat) := (L.filter fun p => un listed p.1).map fun p => (p.1, p.2.filter (un listed))

theorem bubble {i m : Nat} {oi : Oper} {s : List Nat} {listed : Array Bool} (hi : ops[i]? = some oi) (hsel : ∀ (k : Nat) (o : Oper), ops[k]? = some o → ∀ cs b, o.op ≠ .select cs b)
    (hm : ∀ j, un listed j = true → j < ops.size → bit m j = false) : ∀ (l : List (Nat × List Nat)), (∀ p ∈ l, p.1 < ops.size ∧ ∀ r ∈ p.2, r < ops.size) → (∀ r ∈ s, r < ops.size) → okX P ops m i oi s l = true →
    ∀ (K : Act → World → Prop) (a : Act) (w : World), mRunK P ops (unK listed l) (m1k P ops i (s.filter (un listed)) K) a w → m1k P ops i ((lessK s l).filter (un listed)) (mRunK P ops (unK listed l) K) a w := by
  intro l
  induction l with
  | nil => intro _ _ _ K a w h; exact m1k_mono h (fun r hr => by simpa [lessK, names, mem] using hr) (fun _ _ h => h)
  | cons p l ih =>
    obtain ⟨j, sj⟩ := p
    intro hl hss hok K a w h
    simp only [okX, Bool.and_eq_true] at hok
    obtain ⟨hok, hj⟩ := hok
    have hl' : ∀ p ∈ l, p.1 < ops.size ∧ ∀ r ∈ p.2, r < ops.size := fun p hp => hl p (List.mem_cons_of_mem _ hp)
    have sub : ∀ r ∈ (lessK s ((j, sj) :: l)).filter (un listed), r ∈ (lessK s l).filter (un listed) ∧ r ≠ j := by
      intro r hr
      simp only [lessK, names, List.map_cons, List.mem_filter, mem, Bool.not_eq_true'] at hr ⊢
      obtain ⟨⟨h1, h2⟩, h3⟩ := hr
      by_cases he : r = j
      · subst he; simp at h2
      · have : Nat.beq r j = false := by
          cases hb : Nat.beq r j with
          | false => rfl
          | true => exact absurd (Nat.eq_of_beq_eq_true hb) he
        rw [this] at h2
        exact ⟨⟨⟨h1, h2⟩, h3⟩, he⟩
    cases hu : un listed j with
    | false =>
      have e : unK listed ((j, sj) :: l) = unK listed l := by simp [unK, hu]
      rw [e] at h ⊢
      exact m1k_mono (ih hl' hss hok K a w h) (fun r hr => (sub r hr).1) (fun _ _ h => h)
    | true =>
      have e : unK listed ((j, sj) :: l) = (j, sj.filter (un listed)) :: unK listed l := by simp [unK, hu]
      rw [e] at h ⊢
      simp only [mRunK] at h ⊢
      have hjl := (hl (j, sj) (List.mem_cons_self ..)).1
      have hb := hm j hu hjl
      simp only [hb, Bool.false_or] at hj
      rw [Array.getElem?_eq_getElem hjl] at hj
      simp only [Bool.and_eq_true, Bool.or_eq_true, List.all_eq_true] at hj
      obtain ⟨hfar, hj⟩ := hj
      have h2 : m1k P ops j (sj.filter (un listed)) (m1k P ops i ((lessK s l).filter (un listed)) (mRunK P ops (unK listed l) K)) a w := m1k_mono h (fun _ h => h) (fun a w h => ih hl' hss hok K a w h)
      have h2s : ∀ r ∈ (lessK s ((j, sj) :: l)).filter (un listed), ∀ o, ops[r]? = some o → farFrom ops ops[j] o := by
        intro r hr o ho
        obtain ⟨h1, hne⟩ := sub r hr
        rcases hfar r (List.mem_filter.1 h1).1 with hx | hx
        · exact absurd (Nat.eq_of_beq_eq_true hx) hne
        · exact farI_far hx o ho
      rcases hj with ⟨hc, hsj⟩ | ⟨⟨⟨⟨hE, hR⟩, hap⟩, hjs⟩, hjj⟩
      · refine crossA hi (Array.getElem?_eq_getElem hjl) hsel hc (fun r hr o ho => ?_) h2s (m1k_mono h2 (fun _ h => h) (fun a w h => m1k_mono h (fun r hr => (sub r hr).1) (fun _ _ h => h)))
        have hr' := List.mem_filter.1 hr
        have hrl := (hl (j, sj) (List.mem_cons_self ..)).2 r hr'.1
        rcases hsj r hr'.1 with hx | hx
        · rw [hm r hr'.2 hrl] at hx; cases hx
        · exact farI_far hx o ho
      · have hE' : cls P oi.op = .e := by cases hcl : cls P oi.op <;> rw [hcl] at hE <;> first | rfl | cases hE
        have hR' : cls P ops[j].op = .r := by cases hcl : cls P ops[j].op <;> rw [hcl] at hR <;> first | rfl | cases hR
        exact crossB hi (Array.getElem?_eq_getElem hjl) hsel hE' hR' hap (List.mem_filter.2 ⟨mem_iff.1 hjs, hu⟩) (fun r hr => (sub r hr).1) (farB_far hjj) h2s h2

theorem un_set {listed : Array Bool} {i r : Nat} (h : un (listed.setIfInBounds i true) r = true) : un listed r = true ∧ (i < listed.size → r ≠ i) := by
  unfold un at *
  by_cases hri : i = r
  · subst hri
    by_cases hs : i < listed.size
    · simp [hs] at h
    · simp [hs] at h
  · refine ⟨?_, fun _ e => hri e.symm⟩
    rw [getD_set_ne true hri] at h
    exact h
theorem un_set_ne {listed : Array Bool} {i r : Nat} (h : i ≠ r) : un (listed.setIfInBounds i true) r = un listed r := by
  unfold un
  rw [getD_set_ne true h]

/-- With i listed too, less is kept. -/
theorem mRunK_set {i : Nat} {listed : Array Bool} : ∀ (l : List (Nat × List Nat)) (K : Act → World → Prop) (a : Act) (w : World), i ∉ names l → mRunK P ops (unK listed l) K a w → mRunK P ops (unK (listed.setIfInBounds i true) l) K a w := by
  intro l
  induction l with
  | nil => intro K a w _ h; exact h
  | cons p l ih =>
    obtain ⟨j, sj⟩ := p
    intro K a w hn h
    simp only [names, List.map_cons, List.mem_cons, not_or] at hn
    have hj := un_set_ne (listed := listed) (i := i) (r := j) hn.1
    cases hu : un listed j with
    | false =>
      have e : unK listed ((j, sj) :: l) = unK listed l := by simp [unK, hu]
      have e' : unK (listed.setIfInBounds i true) ((j, sj) :: l) = unK (listed.setIfInBounds i true) l := by simp [unK, hj, hu]
      rw [e] at h; rw [e']
      exact ih K a w hn.2 h
    | true =>
      have e : unK listed ((j, sj) :: l) = (j, sj.filter (un listed)) :: unK listed l := by simp [unK, hu]
      have e' : unK (listed.setIfInBounds i true) ((j, sj) :: l) = (j, sj.filter (un (listed.setIfInBounds i true))) :: unK (listed.setIfInBounds i true) l := by simp [unK, hj, hu]
      rw [e] at h; rw [e']
      refine m1k_mono h (fun r hr => ?_) (fun a w h => ih K a w hn.2 h)
      rw [List.mem_filter] at hr ⊢
      exact ⟨hr.1, (un_set hr.2).1⟩

def okLs (P : Program) (ops : Array Oper) (M : List Nat) : List (Nat × List Nat) → List (Nat × List Nat) → Bool
  | _, [] => true
  | pre, (i, s) :: r => (match ops[i]? with | some oi => okX P ops (M.getD i 0) i oi s pre | none => false) && okLs P ops M (pre ++ [(i, s)]) r

def nodupB : List Nat → Bool
  | [] => true
  | a :: r => !(mem a r) && nodupB r
theorem nodupB_iff : ∀ {l : List Nat}, nodupB l = true → l.Nodup
  | [], _ => List.nodup_nil
  | a :: r, h => by
    simp only [nodupB, Bool.and_eq_true, Bool.not_eq_true'] at h
    exact List.nodup_cons.2 ⟨fun hm => (by have h1 := h.1; rw [mem_iff.2 hm] at h1; cases h1), nodupB_iff h.2⟩

/-- M as in okOrder; L: an order, with what each effect must keep. -/
def okOrderK (P : Program) (ops : Array Oper) (M : List Nat) (L : List (Nat × List Nat)) : Bool :=
  let l := ops.toList.zipIdx
  (l.all fun (o, i) =>
    (match o.op with | .select .. => false | _ => true) &&
    (o.after.toList.all fun e => Nat.blt e.on ops.size && (match e.ground with | .gcOnly _ => true | _ => Nat.blt e.on i) && (match e.ground with | .textOnly _ => true | _ => Nat.blt (M.getD (ops.size + e.on) e.on) (M.getD (ops.size + i) i))) &&
    l.all fun (_, j) => bif bit (M.getD i 0) j then Nat.blt j i && (deps o).any fun d => Nat.beq d j || bit (M.getD d 0) j else true) &&
  nodupB (names L) && ((List.range ops.size).all fun i => mem i (names L)) && (L.all fun p => Nat.blt p.1 ops.size && p.2.all fun r => Nat.blt r ops.size) && okLs P ops M [] L

structure OrderedK (P : Program) (ops : Array Oper) (M : List Nat) (L : List (Nat × List Nat)) : Prop where
  sel : ∀ (i : Nat) (o : Oper), ops[i]? = some o → ∀ cs b, o.op ≠ Op.select cs b
  on : ∀ (i : Nat) (o : Oper), ops[i]? = some o → ∀ e ∈ o.after, Region.binds .any e = true → e.on < i
  rank : ∀ (md : Region.Mode), ∃ rk : Nat → Nat, ∀ (i : Nat) (o : Oper), ops[i]? = some o → ∀ e ∈ o.after, Region.binds md e = true → rk e.on < rk i ∧ e.on < ops.size
  rel : ∀ (i j : Nat) (o o' : Oper), ops[i]? = some o → ops[j]? = some o' → bit (M.getD i 0) j = true → j < i ∧ ∃ d ∈ deps o, d = j ∨ bit (M.getD d 0) j = true
  nd : (names L).Nodup
  all : ∀ i, i < ops.size → i ∈ names L
  lt : ∀ p ∈ L, p.1 < ops.size ∧ ∀ r ∈ p.2, r < ops.size
  ok : ∀ (l1 l2 : List (Nat × List Nat)) (i : Nat) (s : List Nat), L = l1 ++ (i, s) :: l2 → ∃ oi, ops[i]? = some oi ∧ okX P ops (M.getD i 0) i oi s l1 = true

theorem okLs_split {M : List Nat} : ∀ (r pre : List (Nat × List Nat)), okLs P ops M pre r = true → ∀ (l1 l2 : List (Nat × List Nat)) (i : Nat) (s : List Nat), r = l1 ++ (i, s) :: l2 → ∃ oi, ops[i]? = some oi ∧ okX P ops (M.getD i 0) i oi s (pre ++ l1) = true := by
  intro r
  induction r with
  | nil => intro pre _ l1 l2 i s h; simp at h
  | cons p r ih =>
    obtain ⟨i0, s0⟩ := p
    intro pre h l1 l2 i s he
    simp only [okLs, Bool.and_eq_true] at h
    cases l1 with
    | nil =>
      simp only [List.nil_append, List.cons.injEq, Prod.mk.injEq] at he
      obtain ⟨⟨rfl, rfl⟩, rfl⟩ := he
      cases ho : ops[i0]? with
      | none => rw [ho] at h; cases h.1
      | some oi => rw [ho] at h; exact ⟨oi, rfl, by simpa using h.1⟩
    | cons q l1 =>
      simp only [List.cons_append, List.cons.injEq] at he
      obtain ⟨rfl, rfl⟩ := he
      obtain ⟨oi, h1, h2⟩ := ih (pre ++ [(i0, s0)]) h.2 l1 l2 i s rfl
      exact ⟨oi, h1, by simpa using h2⟩

theorem orderedK_of {M : List Nat} {L : List (Nat × List Nat)} (h : okOrderK P ops M L = true) : OrderedK P ops M L := by
  simp only [okOrderK, Bool.and_eq_true] at h
  obtain ⟨⟨⟨⟨h, hnd⟩, hall⟩, hlt⟩, hok⟩ := h
  simp only [List.all_eq_true] at h
  have key : ∀ (i : Nat) (o : Oper), ops[i]? = some o → (o, i) ∈ ops.toList.zipIdx := fun i o ho => by
    rw [List.mem_zipIdx_iff_getElem?]
    simpa using ho
  have edge : ∀ (i : Nat) (o : Oper), ops[i]? = some o → ∀ e ∈ o.after, Nat.blt e.on ops.size = true ∧ (match e.ground with | .gcOnly _ => true | _ => Nat.blt e.on i) = true ∧ (match e.ground with | .textOnly _ => true | _ => Nat.blt (M.getD (ops.size + e.on) e.on) (M.getD (ops.size + i) i)) = true := by
    intro i o ho e he
    have := h _ (key i o ho)
    simp only [Bool.and_eq_true, List.all_eq_true] at this
    have h1 := this.1.2 e (by simpa using he)
    exact ⟨h1.1.1, h1.1.2, h1.2⟩
  refine ⟨fun i o ho cs b he => ?_, fun i o ho e he hb => ?_, fun md => ?_, fun i j o o' ho ho' hb => ?_, nodupB_iff hnd, fun i hi => ?_, fun p hp => ?_, fun l1 l2 i s he => ?_⟩
  · have := h _ (key i o ho)
    simp [he] at this
  · have := (edge i o ho e he).2.1
    unfold Region.binds at hb
    cases hg : e.ground <;> rw [hg] at hb this <;> first | exact Nat.le_of_ble_eq_true this | cases hb
  · cases md with
    | gc =>
      refine ⟨fun i => M.getD (ops.size + i) i, fun i o ho e he hb => ?_⟩
      have := edge i o ho e he
      refine ⟨?_, Nat.le_of_ble_eq_true this.1⟩
      have h2 := this.2.2
      unfold Region.binds at hb
      cases hg : e.ground <;> rw [hg] at hb h2 <;> first | exact Nat.le_of_ble_eq_true h2 | cases hb
    | text =>
      refine ⟨fun i => i, fun i o ho e he hb => ?_⟩
      have := edge i o ho e he
      refine ⟨?_, Nat.le_of_ble_eq_true this.1⟩
      have h2 := this.2.1
      unfold Region.binds at hb
      cases hg : e.ground <;> rw [hg] at hb h2 <;> first | exact Nat.le_of_ble_eq_true h2 | cases hb
    | any =>
      refine ⟨fun i => i, fun i o ho e he hb => ?_⟩
      have := edge i o ho e he
      refine ⟨?_, Nat.le_of_ble_eq_true this.1⟩
      have h2 := this.2.1
      unfold Region.binds at hb
      cases hg : e.ground <;> rw [hg] at hb h2 <;> first | exact Nat.le_of_ble_eq_true h2 | cases hb
  · have := h _ (key i o ho)
    simp only [Bool.and_eq_true, List.all_eq_true] at this
    have h1 := this.2 _ (key j o' ho')
    simp only [hb, cond_true, Bool.and_eq_true, List.any_eq_true, Bool.or_eq_true] at h1
    obtain ⟨hlt, d, hd, h1⟩ := h1
    exact ⟨Nat.le_of_ble_eq_true hlt, d, hd, h1.imp Nat.eq_of_beq_eq_true id⟩
  · rw [List.all_eq_true] at hall
    exact mem_iff.1 (hall i (List.mem_range.2 hi))
  · rw [List.all_eq_true] at hlt
    have := hlt p hp
    simp only [Bool.and_eq_true, List.all_eq_true] at this
    exact ⟨Nat.le_of_ble_eq_true this.1, fun r hr => Nat.le_of_ble_eq_true (this.2 r hr)⟩
  · obtain ⟨oi, h1, h2⟩ := okLs_split L [] hok l1 l2 i s he
    exact ⟨oi, h1, by simpa using h2⟩

variable {md : Region.Mode}
theorem reach_listedK {M : List Nat} {L : List (Nat × List Nat)} (hM : OrderedK P ops M L) {listed : Array Bool} (hD : Down ops listed) (hsz : listed.size = ops.size) :
    ∀ (n i j : Nat) (o o' : Oper), i ≤ n → ops[i]? = some o → ops[j]? = some o' → (∀ d ∈ deps o, listed.getD d false = true) → bit (M.getD i 0) j = true → listed.getD j false = true := by
  intro n
  induction n with
  | zero =>
    intro i j o o' hi ho ho' hd hb
    have := (hM.rel i j o o' ho ho' hb).1
    omega
  | succ n ih =>
    intro i j o o' hi ho ho' hd hb
    obtain ⟨hlt, d, hdd, h⟩ := hM.rel i j o o' ho ho' hb
    have hl := hd _ hdd
    rcases h with rfl | h
    · exact hl
    · obtain ⟨e, he, hbe, rfl⟩ := mem_deps.1 hdd
      have hlt := hM.on i o ho e he hbe
      have hds : e.on < ops.size := by have := (Array.getElem?_eq_some_iff.1 ho).1; omega
      refine ih e.on j ops[e.on] o' (by omega) (Array.getElem?_eq_getElem hds) ho' ?_ h
      refine hD e.on ops[e.on] (Array.getElem?_eq_getElem hds) ?_
      have hs : e.on < listed.size := by omega
      simp [hs] at hl ⊢
      exact hl

theorem unK_app (listed : Array Bool) (l r : List (Nat × List Nat)) : unK listed (l ++ r) = unK listed l ++ unK listed r := by simp [unK]

theorem mAnyK {M : List Nat} {L : List (Nat × List Nat)} (hM : OrderedK P ops M L) {Q : Exit → Act → World → Prop} : ∀ (fuel : Nat) (listed : Array Bool), listed.size = ops.size → Down ops listed → (unl ops listed).length = fuel →
    ∀ (a : Act) (w : World), mRunK P ops (unK listed L) (Q .normal) a w → wpAny P md ops Q fuel listed a w := by
  intro fuel
  induction fuel with
  | zero =>
    intro listed hsz hD hl a w h
    have he : unl ops listed = [] := List.eq_nil_of_length_eq_zero hl
    have hun : ∀ i, i < ops.size → un listed i = false := fun i hi => by
      cases hu : un listed i with
      | false => rfl
      | true =>
        have : i ∈ unl ops listed := List.mem_filter.2 ⟨List.mem_range.2 hi, hu⟩
        rw [he] at this; cases this
    have hK : unK listed L = [] := by
      unfold unK
      have : L.filter (fun p => un listed p.1) = [] := List.filter_eq_nil_iff.2 (fun p hp => by simp [hun p.1 (hM.lt p hp).1])
      rw [this]; rfl
    rw [hK] at h
    refine ⟨?_, h⟩
    rw [List.eq_nil_iff_forall_not_mem]
    intro i hi
    obtain ⟨h0, o, ho, _⟩ := mem_ready.1 hi
    have := hun i (Array.getElem?_eq_some_iff.1 ho).1
    unfold un at this
    rw [h0] at this
    cases this
  | succ fuel ih =>
    intro listed hsz hD hl a w h
    refine ⟨fun hr => ?_, fun i hi => ?_⟩
    · exfalso
      obtain ⟨rk, hrk⟩ := hM.rank md
      have hmin : ∀ (l : List Nat), l ≠ [] → ∃ i ∈ l, ∀ j ∈ l, rk i ≤ rk j := by
        intro l
        induction l with
        | nil => intro h; exact absurd rfl h
        | cons x l ihl =>
          intro _
          by_cases hl : l = []
          · subst hl; exact ⟨x, List.mem_cons_self .., fun j hj => by rcases List.mem_cons.1 hj with rfl | hj; exact Nat.le_refl _; cases hj⟩
          · obtain ⟨i, hi, hle⟩ := ihl hl
            by_cases hx : rk x ≤ rk i
            · exact ⟨x, List.mem_cons_self .., fun j hj => by rcases List.mem_cons.1 hj with rfl | hj; exact Nat.le_refl _; exact Nat.le_trans hx (hle j hj)⟩
            · exact ⟨i, List.mem_cons_of_mem _ hi, fun j hj => by rcases List.mem_cons.1 hj with rfl | hj; omega; exact hle j hj⟩
      obtain ⟨i, hi, hle⟩ := hmin (unl ops listed) (fun h => by rw [h] at hl; cases hl)
      have hin : i < ops.size := List.mem_range.1 (List.mem_filter.1 hi).1
      have hil : listed.getD i true = false := by have := (List.mem_filter.1 hi).2; simpa using this
      have : i ∈ Region.ready md ops listed := mem_ready.2 ⟨hil, ops[i], Array.getElem?_eq_getElem hin, fun e he hb => by
        obtain ⟨hlt, hs⟩ := hrk i _ (Array.getElem?_eq_getElem hin) e he hb
        have hs' : e.on < listed.size := by omega
        cases hle' : listed.getD e.on true with
        | true => simp [hs'] at hle' ⊢; exact hle'
        | false =>
          have hm : e.on ∈ unl ops listed := List.mem_filter.2 ⟨List.mem_range.2 hs, by rw [hle']; rfl⟩
          have := hle _ hm
          omega⟩
      rw [hr] at this; cases this
    · obtain ⟨h0, o, ho, hdep⟩ := mem_ready.1 hi
      have hin := (Array.getElem?_eq_some_iff.1 ho).1
      have hm : i ∈ unl ops listed := List.mem_filter.2 ⟨List.mem_range.2 hin, by rw [h0]; rfl⟩
      obtain ⟨r1, r2, hr⟩ := List.append_of_mem hm
      have hset := unl_set hsz r1 r2 hr
      have hdl : ∀ d ∈ deps o, listed.getD d false = true := fun d hd => by
        obtain ⟨e, he, hb, rfl⟩ := mem_deps.1 hd
        exact hdep e he (binds_any hb)
      obtain ⟨⟨i', s⟩, hp, he⟩ := List.mem_map.1 (hM.all i hin)
      simp only at he
      subst he
      obtain ⟨l1, l2, hL⟩ := List.append_of_mem hp
      obtain ⟨oi, hoi, hok⟩ := hM.ok l1 l2 i' s hL
      rw [ho] at hoi
      cases hoi
      have hui : un listed i' = true := by unfold un; rw [h0]; rfl
      have hnd := hM.nd
      rw [hL, names, List.map_append, List.map_cons, List.nodup_append] at hnd
      have hn1 : i' ∉ names l1 := fun hx => hnd.2.2 i' hx i' (List.mem_cons_self ..) rfl
      have hn2 : i' ∉ names l2 := (List.nodup_cons.1 hnd.2.1).1
      have hu1 : unK listed L = unK listed l1 ++ (i', s.filter (un listed)) :: unK listed l2 := by
        rw [hL, unK_app]
        congr 1
        simp [unK, hui]
      rw [hu1, mRunK_append] at h
      have hlt := hM.lt
      have h2 := bubble (listed := listed) ho hM.sel (fun j hj hjs => by
        cases hb : bit (M.getD i' 0) j with
        | false => rfl
        | true =>
          have hlj := reach_listedK hM hD hsz i' i' j o ops[j] (Nat.le_refl _) ho (Array.getElem?_eq_getElem hjs) hdl hb
          unfold un at hj
          have hjs' : j < listed.size := by omega
          simp [hjs'] at hj hlj
          rw [hlj] at hj; cases hj) l1 (fun p hp => hlt p (by rw [hL]; exact List.mem_append_left _ hp)) (hlt (i', s) hp).2 hok _ a w h
      refine m1_wpOp (m1_mono (m1k_m1 h2) (fun a w h3 => ?_))
      refine ih (listed.setIfInBounds i' true) (by simp [hsz]) ?_ ?_ a w ?_
      · intro k ok hk hkl d hd
        by_cases hki : i' = k
        · subst hki
          rw [ho] at hk; cases hk
          exact getD_set_true (hdl d hd)
        · rw [getD_set_ne true hki] at hkl
          exact getD_set_true (hD k ok hk hkl d hd)
      · rw [hset]
        rw [hr] at hl
        simp at hl ⊢; omega
      · have e : unK (listed.setIfInBounds i' true) L = unK (listed.setIfInBounds i' true) (l1 ++ l2) := by
          have hself : un (listed.setIfInBounds i' true) i' = false := by
            unfold un
            simp [hsz, hin]
          rw [hL, unK_app, unK_app]
          congr 1
          simp [unK, hself]
        rw [e]
        refine mRunK_set (l1 ++ l2) _ a w ?_ ?_
        · rw [names, List.map_append, List.mem_append]
          exact fun hx => hx.elim hn1 hn2
        · rw [unK_app, mRunK_append]
          exact h3

theorem region_drawK {M : List Nat} {L : List (Nat × List Nat)} (hM : okOrderK P ops M L = true) {id : Nat} {Q : Exit → Act → World → Prop} {a : Act}
    (h : mRunK P ops L (Q .normal) a { w with drawn := w.drawn + 1 }) : (Code.region id ops true).wp P Q a w := by
  have hO := orderedK_of hM
  have hun : ∀ i, i < ops.size → un (Array.replicate ops.size false) i = true := fun i hi => by simp [un, hi]
  have hu : unK (Array.replicate ops.size false) L = L := by
    unfold unK
    rw [List.filter_eq_self.2 (fun p hp => hun p.1 (hO.lt p hp).1)]
    conv => rhs; rw [← List.map_id L]
    refine List.map_congr_left (fun p hp => ?_)
    rw [List.filter_eq_self.2 (fun r hr => hun r ((hO.lt p hp).2 r hr))]
    rfl
  have hl : unl ops (Array.replicate ops.size false) = List.range ops.size := by
    unfold unl
    refine List.filter_eq_self.2 fun i hi => ?_
    have := List.mem_range.1 hi
    simp [this]
  have hall : ∀ md, wpAny P md ops Q ops.size (Array.replicate ops.size false) a { w with drawn := w.drawn + 1 } := fun md =>
    mAnyK (md := md) hO ops.size _ (by simp) (fun i o ho hl => by
      have := (Array.getElem?_eq_some_iff.1 ho).1
      simp [this] at hl) (by rw [hl]; simp) a _ (by rw [hu]; exact h)
  refine wp_region_draw fun t => ?_
  unfold Region.schedule
  split
  · exact wpAny_sound _ _ _ _ _ (hall _)
  · split <;> exact wpAny_sound _ _ _ _ _ (hall _)
end
end Go.Bk
