/- The engine, part 5: code and bodies are sound. -/
import Derived.Test.YtbbjljhbiaeadaaEn4
set_option linter.unusedSimpArgs false
set_option linter.unusedVariables false
namespace Go.Bk
section
variable {P : Program} {n : Nat}

/-- What a code leaves. -/
def Left (n : Nat) (c : Code) (a : Act) (k : Env → World → Prop) (ks : List (Nat × (Env → World → Prop))) (kr : Env → World → Prop) : Exit → Act → World → Prop := fun ex a' w' =>
  Stays (writes c) a a' ∧ match ex with
    | .normal => ∃ e', Ag n a' e' ∧ k e' w'
    | .exit id => ∃ e' kk, kfind ks id = some kk ∧ Ag n a' e' ∧ kk e' w'
    | .ret => ∃ e', Ag n a' e' ∧ kr e' w'
    | _ => False

theorem nodupT_spec {l : List Nat} (h : nodupT l = true) : l.Nodup := by
  induction l with
  | nil => exact List.nodup_nil
  | cons a r ih =>
    simp only [nodupT, Bool.and_eq_true] at h
    refine List.nodup_cons.2 ⟨fun hm => ?_, ih h.2⟩
    rw [mem_iff.2 hm] at h
    cases h.1

theorem sets_get {t : Nat} {e : Env} {v : Value} : ∀ (S : List Nat) (i : Nat) (vs : List Value), (Env.sets S i vs e).get t = some v →
    (∃ k, S[k]? = some t ∧ v = vs.getD (i + k) undef) ∨ e.get t = some v := by
  intro S
  induction S with
  | nil => intro i vs h; exact .inr h
  | cons s S ih =>
    intro i vs h
    simp only [Env.sets, Env.get] at h
    cases hts : Nat.beq t s with
    | true =>
      simp only [hts, cond_true, Option.some.injEq] at h
      exact .inl ⟨0, by simp [Nat.eq_of_beq_eq_true hts], by rw [← h]; rfl⟩
    | false =>
      simp only [hts, cond_false] at h
      rcases ih (i + 1) vs h with ⟨k, hk, hv⟩ | h
      · exact .inl ⟨k + 1, by simpa using hk, by rw [hv]; congr 1; omega⟩
      · exact .inr h

/-- Behind code that writes l alone: what was known outside of l, and the slots S with what they hold. -/
theorem Ag.join {a a' : Act} {e e' : Env} {l S : List Nat} (h : Ag n a e) (hs : Stays l a a') (h' : Ag n a' e') (hk : e'.knowsT S = true) : Ag n a' (Env.sets S 0 (e'.vals S) (.cut l e)) := by
  have hc := h.cut_of l (hs.1.trans h.defers) (hs.2.1.trans h.size) hs.2.2
  refine ⟨hc.defers, hc.size, fun t v hv => ?_⟩
  rcases sets_get S 0 _ hv with ⟨k, hks, rfl⟩ | hv
  · have hmem : t ∈ S := List.mem_of_getElem? hks
    simp only [Env.knowsT, List.all_eq_true] at hk
    have hkn := hk t hmem
    simp only [Env.knows1] at hkn
    obtain ⟨u, hu⟩ := Option.isSome_iff_exists.1 hkn
    have := h'.get t u hu
    rw [this]
    simp [Env.vals, hks, Env.ev, hu]
  · exact hc.get t v hv

theorem least_ex {p : Nat → Prop} : ∀ n, p n → ∃ m, p m ∧ ∀ k, p k → m ≤ k := by
  intro n
  induction n using Nat.strongRecOn with
  | _ n ih =>
    intro h
    by_cases hk : ∃ k, k < n ∧ p k
    · obtain ⟨k, hk, hp⟩ := hk; exact ih k hk hp
    · exact ⟨n, h, fun k hp => Nat.le_of_not_lt fun hlt => hk ⟨k, hlt, hp⟩⟩

theorem wp_loop_ix {Q : Exit → Act → World → Prop} {a : Act} {w : World} {c : Code} (I : Nat → Act → World → Prop) (n0 : Nat) (h0 : I n0 a w)
    (round : ∀ n a w, I n a w → c.wp P (Exit.then (fun a' w' => ∃ m, m < n ∧ I m a' w') Q) a w) : (Code.loop c).wp P Q a w := by
  have hex : ∀ (a : Act) (w : World), ∃ m, (∃ n, I n a w) → I m a w ∧ ∀ k, I k a w → m ≤ k := by
    intro a w
    by_cases h : ∃ n, I n a w
    · obtain ⟨n, hn⟩ := h
      obtain ⟨m, hm⟩ := least_ex (p := fun n => I n a w) n hn
      exact ⟨m, fun _ => hm⟩
    · exact ⟨0, fun h' => absurd h' h⟩
  have hex2 : ∃ f : Act → World → Nat, ∀ a w, (∃ n, I n a w) → I (f a w) a w ∧ ∀ k, I k a w → f a w ≤ k :=
    ⟨fun a w => Classical.choose (hex a w), fun a w => Classical.choose_spec (hex a w)⟩
  obtain ⟨least, hl⟩ := hex2
  refine wp_loop (fun a w => ∃ n, I n a w) least ⟨n0, h0⟩ (fun a w h => ?_)
  refine wp_mono (round _ a w (hl a w h).1) ?_
  intro e a' w' hq
  cases e <;> try exact hq
  obtain ⟨m, hm, hi⟩ := hq
  refine ⟨⟨m, hi⟩, ?_⟩
  have := (hl a' w' ⟨m, hi⟩).2 m hi
  omega

theorem kfind_cons {id i : Nat} {k kk : Env → World → Prop} {ks : List (Nat × (Env → World → Prop))} (h : kfind ((i, k) :: ks) id = some kk) : (i = id ∧ kk = k) ∨ (i ≠ id ∧ kfind ks id = some kk) := by
  simp only [kfind] at h
  cases hb : Nat.beq i id with
  | true => simp only [hb, cond_true, Option.some.injEq] at h; exact .inl ⟨Nat.eq_of_beq_eq_true hb, h.symm⟩
  | false =>
    simp only [hb, cond_false] at h
    exact .inr ⟨fun e => by subst e; simp at hb, h⟩

theorem dsts_lt (c : Code) (n : Nat) (h : (writes c).all (Nat.blt · n) = true) : ∀ t ∈ writes c, t < n := by
  intro t ht
  rw [List.all_eq_true] at h
  exact Nat.le_of_ble_eq_true (h t ht)

theorem pick_ok {ops : Array Oper} : ∀ (pi : List Nat), (pi.all fun i => Nat.blt i ops.size) = true → (pick ops pi).length = pi.length ∧ ∀ p ∈ pick ops pi, ops[p.2]? = some p.1
  | [], _ => ⟨rfl, fun p hp => by cases hp⟩
  | i :: r, h => by
    simp only [List.all_cons, Bool.and_eq_true] at h
    have hlt : i < ops.size := Nat.le_of_ble_eq_true h.1
    have ho := Array.getElem?_eq_getElem hlt
    obtain ⟨h1, h2⟩ := pick_ok r h.2
    unfold pick
    rw [ho]
    refine ⟨by simp only [List.length_cons, h1], fun p hp => ?_⟩
    rcases List.mem_cons.1 hp with rfl | hp
    · exact ho
    · exact h2 p hp

theorem vc_sound : ∀ (an : An) (c : Code) (k : Env → World → Prop) (ks : List (Nat × (Env → World → Prop))) (kr : Env → World → Prop) (a : Act) (e : Env) (w : World),
    (∀ t ∈ writes c, t < n) → Ag n a e → vc P an c k ks kr e w → c.wp P (Left n c a k ks kr) a w := by
  intro an
  induction an with
  | leaf =>
    intro c k ks kr a e w hn hA h
    cases c <;> simp only [vc] at h <;> try exact h.elim
    case skip => exact wp_skip ⟨Stays.refl _ _, e, hA, h⟩
    case exit id =>
      cases hk : kfind ks id with
      | none => rw [hk] at h; exact h.elim
      | some kk => rw [hk] at h; exact wp_exit ⟨Stays.refl _ _, e, kk, hk, hA, h⟩
    case ret => exact wp_ret ⟨Stays.refl _ _, e, hA, h⟩
  | reg M s =>
    intro c k ks kr a e w hn hA h
    cases c <;> simp only [vc] at h <;> try exact h.elim
    case region id ops draw =>
      cases hlen : Nat.beq s.len ops.size <;> simp only [hlen, cond_true, cond_false] at h
      have hlen := Nat.eq_of_beq_eq_true hlen
      have hzip : ∀ p ∈ ops.toList.zipIdx, ops[p.2]? = some p.1 := fun p hp => by
        obtain ⟨o, i⟩ := p
        rw [List.mem_zipIdx_iff_getElem?] at hp
        simpa using hp
      have hzl : (ops.toList.zipIdx).length = ops.size := by simp
      have hrange : (ops.toList.zipIdx.take s.len).map (·.2) = List.range ops.size := by
        rw [List.take_of_length_le (by omega)]
        simp [List.range_eq_range']
      have key : ∀ w, vcS P ops s [] (ops.toList.zipIdx) e w k → mRun P ops (List.range ops.size) (Left n (.region id ops draw) a k ks kr .normal) a w := by
        intro w h
        have h1 := vcS_run (ops := ops) s [] (ops.toList.zipIdx) a e w k hA (fun _ hg => by cases hg) hzip (fun p hp t ht => hn t (by
          show t ∈ dstsOf (ops.toList.zipIdx)
          exact mem_dstsOf.2 ⟨p, hp, ht⟩)) (by omega) h
        have h2 := mRun_frame (ops := ops) (ops.toList.zipIdx.take s.len) (fun p hp => hzip p (List.mem_of_mem_take hp)) h1
        rw [hrange] at h2
        refine mRun_mono h2 ?_
        rintro a' w' ⟨hk, hst⟩
        refine ⟨?_, hk⟩
        rw [List.take_of_length_le (by omega)] at hst
        exact hst
      cases draw with
      | false => simp only [cond_false] at h; exact region_text (key w h)
      | true =>
        cases hok : okOrder P ops M <;> simp only [hok, cond_true, cond_false] at h
        exact region_draw hok (key _ h)
  | regp pi M s =>
    intro c k ks kr a e w hn hA h
    cases c <;> simp only [vc] at h <;> try exact h.elim
    case region id ops draw =>
      cases hb : (Nat.beq s.len pi.length && (pi.all fun i => Nat.blt i ops.size) && draw && okOrderK P ops M (s.tag (pick ops pi))) <;> simp only [hb, cond_true, cond_false] at h
      simp only [Bool.and_eq_true] at hb
      obtain ⟨⟨⟨hlen, hpi⟩, hdr⟩, hok⟩ := hb
      subst hdr
      have hlen := Nat.eq_of_beq_eq_true hlen
      obtain ⟨hpl, hpk⟩ := pick_ok (ops := ops) pi hpi
      refine region_drawK hok ?_
      have h1 := vcS_runK (ops := ops) s [] (pick ops pi) a e _ k hA (fun _ hg => by cases hg) hpk (fun p hp t ht => hn t (by
        show t ∈ dstsOf (ops.toList.zipIdx)
        refine mem_dstsOf.2 ⟨p, ?_, ht⟩
        rw [List.mem_zipIdx_iff_getElem?]
        simpa using hpk p hp)) (by omega) h
      have h2 := mRunK_frame (ops := ops) ((pick ops pi).take s.len) (fun p hp => hpk p (List.mem_of_mem_take hp)) _ (tag_names s (pick ops pi) (by omega)) h1
      refine mRunK_mono h2 ?_
      rintro a' w' ⟨hk, hst⟩
      refine ⟨hst.trans (Stays.refl [] a') (fun t ht => ht.elim (fun hm => ?_) (fun h => by cases h)), hk⟩
      obtain ⟨p, hp, hd⟩ := mem_dstsOf.1 hm
      show t ∈ dstsOf (ops.toList.zipIdx)
      refine mem_dstsOf.2 ⟨p, ?_, hd⟩
      rw [List.mem_zipIdx_iff_getElem?]
      simpa using hpk p (List.mem_of_mem_take hp)
  | seq x y ihx ihy =>
    intro c k ks kr a e w hn hA h
    cases c <;> simp only [vc] at h <;> try exact h.elim
    case seq cx cy =>
      refine wp_seq ?_
      refine wp_mono (ihx cx _ ks kr a e w (fun t ht => hn t (List.mem_append_left _ ht)) hA h) ?_
      rintro ex a1 w1 ⟨hs, hk⟩
      have hs' : Stays (writes (.seq cx cy)) a a1 := hs.trans (Stays.refl [] a1) (fun t ht => ht.elim (List.mem_append_left _) (fun h => by cases h))
      cases ex with
      | normal =>
        obtain ⟨e1, hA1, hk⟩ := hk
        refine wp_mono (ihy cy k ks kr a1 e1 w1 (fun t ht => hn t (List.mem_append_right _ ht)) hA1 hk) ?_
        rintro ex a2 w2 ⟨hs2, hk2⟩
        exact ⟨hs.trans hs2 (fun t ht => ht.elim (List.mem_append_left _) (List.mem_append_right _)), hk2⟩
      | exit id => exact ⟨hs', hk⟩
      | ret => exact ⟨hs', hk⟩
      | _ => exact hk.elim
  | join S x y ihx ihy =>
    intro c k ks kr a e w hn hA h
    cases c <;> simp only [vc] at h <;> try exact h.elim
    case seq cx cy =>
      cases hnd : nodupT S <;> simp only [hnd, cond_true, cond_false] at h
      obtain ⟨J, h, hJ⟩ := h
      refine wp_seq ?_
      refine wp_mono (ihx cx _ ks kr a e w (fun t ht => hn t (List.mem_append_left _ ht)) hA h) ?_
      rintro ex a1 w1 ⟨hs, hk⟩
      have hs' : Stays (writes (.seq cx cy)) a a1 := hs.trans (Stays.refl [] a1) (fun t ht => ht.elim (List.mem_append_left _) (fun h => by cases h))
      cases ex with
      | normal =>
        obtain ⟨e1, hA1, hk⟩ := hk
        cases hkn : e1.knowsT S <;> simp only [hkn, cond_true, cond_false] at hk
        refine wp_mono (ihy cy k ks kr a1 _ w1 (fun t ht => hn t (List.mem_append_right _ ht)) (hA.join hs hA1 hkn) (hJ _ _ hk)) ?_
        rintro ex a2 w2 ⟨hs2, hk2⟩
        exact ⟨hs.trans hs2 (fun t ht => ht.elim (List.mem_append_left _) (List.mem_append_right _)), hk2⟩
      | exit id => exact ⟨hs', hk⟩
      | ret => exact ⟨hs', hk⟩
      | _ => exact hk.elim
  | cond x y ihx ihy =>
    intro c k ks kr a e w hn hA h
    cases c <;> simp only [vc] at h <;> try exact h.elim
    case cond c cx cy =>
      cases hkn : e.knows1 c <;> simp only [hkn, cond_true, cond_false] at h
      obtain ⟨⟨t, ht⟩, hx, hy⟩ := h
      have hev : a.eval c = .bool t := by rw [hA.eval hkn, ht]
      refine wp_cond hev ?_
      cases t with
      | true =>
        refine wp_mono (ihx cx k ks kr a e w (fun t ht => hn t (List.mem_append_left _ ht)) hA (hx ht)) ?_
        rintro ex a1 w1 ⟨hs, hk⟩
        exact ⟨hs.trans (Stays.refl [] a1) (fun t ht => ht.elim (List.mem_append_left _) (fun h => by cases h)), hk⟩
      | false =>
        refine wp_mono (ihy cy k ks kr a e w (fun t ht => hn t (List.mem_append_right _ ht)) hA (hy ht)) ?_
        rintro ex a1 w1 ⟨hs, hk⟩
        exact ⟨hs.trans (Stays.refl [] a1) (fun t ht => ht.elim (List.mem_append_right _) (fun h => by cases h)), hk⟩
  | blk x ih =>
    intro c k ks kr a e w hn hA h
    cases c <;> simp only [vc] at h <;> try exact h.elim
    case block id cx =>
      refine wp_block ?_
      refine wp_mono (ih cx k _ kr a e w hn hA h) ?_
      rintro ex a1 w1 ⟨hs, hk⟩
      cases ex with
      | exit id' =>
        obtain ⟨e1, kk, hkk, hA1, hk⟩ := hk
        simp only [Exit.inBlock]
        rcases kfind_cons hkk with ⟨rfl, rfl⟩ | ⟨hne, hkk⟩
        · rw [if_pos rfl]; exact ⟨hs, e1, hA1, hk⟩
        · rw [if_neg (fun h => hne h.symm)]; exact ⟨hs, e1, kk, hkk, hA1, hk⟩
      | _ => exact ⟨hs, hk⟩
  | blkJ S x ih =>
    intro c k ks kr a e w hn hA h
    cases c <;> simp only [vc] at h <;> try exact h.elim
    case block id cx =>
      cases hnd : nodupT S <;> simp only [hnd, cond_true, cond_false] at h
      obtain ⟨J, h, hJ⟩ := h
      refine wp_block ?_
      refine wp_mono (ih cx _ _ kr a e w hn hA h) ?_
      rintro ex a1 w1 ⟨hs, hk⟩
      have fin : ∀ e1, Ag n a1 e1 → (bif e1.knowsT S then J (e1.vals S) w1 else False) → Left n (.block id cx) a k ks kr .normal a1 w1 := by
        intro e1 hA1 hk
        cases hkn : e1.knowsT S <;> simp only [hkn, cond_true, cond_false] at hk
        exact ⟨hs, _, hA.join hs hA1 hkn, hJ _ _ hk⟩
      cases ex with
      | normal => obtain ⟨e1, hA1, hk⟩ := hk; exact fin e1 hA1 hk
      | exit id' =>
        obtain ⟨e1, kk, hkk, hA1, hk⟩ := hk
        simp only [Exit.inBlock]
        rcases kfind_cons hkk with ⟨rfl, rfl⟩ | ⟨hne, hkk⟩
        · rw [if_pos rfl]; exact fin e1 hA1 hk
        · rw [if_neg (fun h => hne h.symm)]; exact ⟨hs, e1, kk, hkk, hA1, hk⟩
      | _ => exact ⟨hs, hk⟩
  | loop S x ih =>
    intro c k ks kr a e w hn hA h
    cases c <;> simp only [vc] at h <;> try exact h.elim
    case loop cx =>
      cases hnd : (nodupT S && e.knowsT S) <;> simp only [hnd, cond_true, cond_false] at h
      simp only [Bool.and_eq_true] at hnd
      obtain ⟨I, n0, h0, hI⟩ := h
      refine wp_loop_ix (fun m a' w' => ∃ vs, I m vs w' ∧ Ag n a' (Env.sets S 0 vs (.cut (writes cx) e)) ∧ Stays (writes cx) a a') n0
        ⟨_, h0, hA.join (Stays.refl _ _) hA hnd.2, Stays.refl _ _⟩ ?_
      rintro m a1 w1 ⟨vs, hi, hA1, hs1⟩
      refine wp_mono (ih cx _ ks kr a1 _ w1 hn hA1 (hI m vs w1 hi)) ?_
      rintro ex a2 w2 ⟨hs2, hk⟩
      have hs : Stays (writes cx) a a2 := hs1.trans hs2 (fun t ht => ht.elim id id)
      cases ex with
      | normal =>
        obtain ⟨e2, hA2, hk⟩ := hk
        cases hkn : e2.knowsT S <;> simp only [hkn, cond_true, cond_false] at hk
        obtain ⟨m', hm', hi'⟩ := hk
        exact ⟨m', hm', _, hi', hA.join hs hA2 hkn, hs⟩
      | exit id => exact ⟨hs, hk⟩
      | ret => exact ⟨hs, hk⟩
      | _ => exact hk.elim

def resOne (tmps : Array Value) : ResultVar → Sem Value
  | .tmp t => pure (tmps.getD t undef)
  | .cell p t => do loadVar t (← asAddr (tmps.getD p undef))

theorem results_eq (fn : Func) (tmps : Array Value) : results fn tmps = (do
    let vs ← fn.results.mapM (resOne tmps)
    pure (if h : vs.size = 1 then vs[0] else .tuple vs) : Sem Value) := by
  unfold results
  congr 2

theorem vcRes_run {e : Env} {w : World} {K : Value → World → Prop} {a : Act} (hA : Ag n a e) : ∀ (l : List ResultVar) (acc : List Value), vcRes P e w K l acc →
    ∃ vs : List Value, (l.mapM (resOne a.tmps)).run P w = .ok vs w ∧
      K (match acc ++ vs with | [v] => v | vs => .tuple vs.toArray) w := by
  intro l
  induction l with
  | nil => intro acc h; exact ⟨[], rfl, by rw [List.append_nil]; exact h⟩
  | cons r l ih =>
    intro acc h
    cases r with
    | tmp t =>
      simp only [vcRes] at h
      cases hk : e.knows1 (.tmp t) <;> simp only [hk, cond_true, cond_false] at h
      obtain ⟨vs, hr, hK⟩ := ih _ h
      refine ⟨e.ev (.tmp t) :: vs, ?_, by simpa using hK⟩
      have : a.tmps.getD t undef = e.ev (.tmp t) := hA.eval hk
      rw [List.mapM_cons]
      simp only [resOne, this, Sem.run_bind, Sem.run_pure, Result.andThen]
      simp only [hr]
    | cell p t =>
      simp only [vcRes] at h
      cases hk : e.knows1 (.tmp p) <;> simp only [hk, cond_true, cond_false] at h
      split at h
      · rename_i i d hi hd
        obtain ⟨v, hv, h⟩ := of_pV h
        obtain ⟨vs, hr, hK⟩ := ih _ h
        refine ⟨v :: vs, ?_, by simpa using hK⟩
        have this : a.tmps.getD p undef = e.ev (.tmp p) := hA.eval hk
        have hl := look_ld hd hi hv
        have hrun := look_run _ _ hl
        have hsame : (do loadVar t (← asAddr (e.ev (.tmp p))) : Sem Value).run P w = .ok v w := by
          have hp : ∃ ad, e.ev (.tmp p) = .pointer (some ad) := by
            unfold ldV at hv
            split at hv
            · rename_i ad he; exact ⟨ad, he⟩
            · cases hv
          obtain ⟨ad, had⟩ := hp
          rw [had] at hrun ⊢
          exact hrun
        rw [List.mapM_cons, Sem.run_bind]
        simp only [resOne, this]
        rw [hsame]
        simp only [Result.andThen, Sem.run_bind, hr, Sem.run_pure]
      · exact h.elim

theorem results_run {e : Env} {w : World} {K : Value → World → Prop} {a : Act} {fn : Func} (hA : Ag n a e) (h : vcRes P e w K fn.results.toList []) :
    ∃ v, (results fn a.tmps).run P w = .ok v w ∧ K v w := by
  obtain ⟨vs, hr, hK⟩ := vcRes_run hA _ _ h
  refine ⟨_, ?_, hK⟩
  rw [results_eq, Array.mapM_eq_mapM_toList]
  simp only [bind_map_left, List.nil_append]
  rw [Sem.run_bind, hr]
  simp only [Result.andThen]
  match vs with
  | [] => rfl
  | [v] => rfl
  | v :: u :: r => simp

theorem calls_of_vc {f : FuncId} {fn : Func} {c : Code} {an : An} {np : Nat} {args : List Value} {w : World} {K : Value → World → Prop}
    (hf : P.funcs[f]? = some fn) (hb : fn.body = some c) (hw : (writes c).all (Nat.blt · fn.ntmps) = true) (hnp : args.length = np) (hlt : Nat.ble np fn.ntmps = true)
    (h : vcFun P an c fn.results.toList np args w K) : Calls P f args.toArray w (retK K) := by
  have hle : np ≤ fn.ntmps := Nat.le_of_ble_eq_true hlt
  refine calls_of_wp hf hb ?_
  have hA : Ag fn.ntmps { tmps := args.toArray ++ Array.replicate (fn.ntmps - args.toArray.size) undef, defers := [] } (Env.sets (range0 0 np) 0 args .nil) := by
    refine ⟨rfl, by simp [hnp]; omega, fun t v hv => ?_⟩
    rcases sets_get _ _ _ hv with ⟨k, hk, rfl⟩ | h
    · have hr : ∀ (m i k t : Nat), (range0 i m)[k]? = some t → t = i + k ∧ k < m := by
        intro m
        induction m with
        | zero => intro i k t h; simp [range0] at h
        | succ m ih =>
          intro i k t h
          cases k with
          | zero => simp [range0] at h; omega
          | succ k =>
            simp only [range0, List.getElem?_cons_succ] at h
            have := ih _ _ _ h
            omega
      obtain ⟨rfl, hlt⟩ := hr _ _ _ _ hk
      have : k < args.length := by omega
      simp only [Nat.zero_add, Array.getElem?_append, List.size_toArray, this, if_true, List.getElem?_toArray]
      simp [List.getD_eq_getElem?_getD, this]
    · cases h
  refine wp_mono (vc_sound an c _ _ _ _ _ w (dsts_lt c _ hw) hA h) ?_
  rintro ex a' w' ⟨hs, hk⟩
  cases ex with
  | normal =>
    obtain ⟨e', hA', hk⟩ := hk
    obtain ⟨v, hr, hK⟩ := results_run hA' hk
    exact ⟨hA'.defers, v, hr, v, rfl, hK⟩
  | ret =>
    obtain ⟨e', hA', hk⟩ := hk
    obtain ⟨v, hr, hK⟩ := results_run hA' hk
    exact ⟨hA'.defers, v, hr, v, rfl, hK⟩
  | exit id => obtain ⟨e', kk, hkk, _⟩ := hk; cases hkk
  | _ => exact hk.elim

theorem pCall_of {f : FuncId} {fn : Func} {c : Code} (hf : P.funcs[f]? = some fn) (hname : (fn.name == "runtime.NumGoroutine") = false) (hb : fn.body = some c) {args : List Value} {w : World} {K : Value → World → Prop}
    (h : Calls P f args.toArray w (retK K)) : pCall P f args w K := by
  have h1 : fn.name ≠ "runtime.NumGoroutine" := by simpa using hname
  unfold pCall pNext
  have : (callFunc f args.toArray).run P w = .ok (.enter f args.toArray) w := by simp [callFunc, hf, h1, hb]
  rw [this]
  exact h
end
end Go.Bk
