/- ScriptBytes, where what it reads is of bulk at most 1048576: Encode of any inputs and Decode of any bytes answer as the document does, what is handed in is left as it is, what is told is new: the row. -/
import Derived.Test.YtcghhhjklihpkaaSbM
import Derived.Test.YtcghhhjklihpkaaRow
import Derived.Test.YtcghhhjklihpkaaRows
set_option linter.unusedSimpArgs false
set_option linter.unusedVariables false
namespace Go.Proofs.Ytcghhhjklihpkaa
open Go.Bk Go.RowKit Go.ChangeShapes Go.WideShapes Go.ChangeAt

theorem bulk_one {H : Type} (d : DataW H) : 1 ≤ Rows.uptoBulk d := by
  cases d with
  | lit l => cases l <;> simp [Rows.uptoBulk]
  | nil => simp [Rows.uptoBulk]
  | ptr d => simp [Rows.uptoBulk]
  | slice elems spare => simp [Rows.uptoBulk]
  | agg parts => simp [Rows.uptoBulk]
  | iface t d => simp [Rows.uptoBulk]
  | map entries => simp [Rows.uptoBulk]
  | held h => simp [Rows.uptoBulk]
theorem bulk_part {H : Type} {d : DataW H} : ∀ {l : List (DataW H)}, d ∈ l → Rows.uptoBulk d ≤ Rows.uptoBulkAll l
  | [], h => by cases h
  | x :: r, h => by
    simp only [Rows.uptoBulkAll]
    cases List.mem_cons.1 h with
    | inl e => subst e; omega
    | inr e => have := bulk_part e; omega
theorem bulk_len {H : Type} : ∀ (l : List (DataW H)), l.length ≤ Rows.uptoBulkAll l
  | [] => by simp [Rows.uptoBulkAll]
  | x :: r => by have := bulk_one x; have := bulk_len r; simp only [Rows.uptoBulkAll, List.length_cons]; omega

instance : Inhabited In := ⟨⟨0, 0, 0, []⟩⟩
section
variable {H : Type} {enc : TypeId × Value → H} {w : World} {spare : Nat → Bool} {held : Bool}

theorem flat_one {α : Type} (h : α → Value) (l : List α) : (l.map fun i => [h i]).flatten = l.map h := by
  induction l with
  | nil => rfl
  | cons a l ih => simp only [List.map_cons, List.flatten_cons, ih]; rfl

theorem open_rdi {fuel : Nat} {cs : List Value} {x : DataW H × List MemPlace} (h : DataW.trod enc Try.prog w 0 spare held fuel 40 cs = some x) :
    ∃ (v : Value) (d : List Int), cs = [v] ∧ RdI w v d ∧ d.length ≤ Rows.uptoBulk x.1 := by
  have hc : Try.prog.cellsOf 2 = 1 := by kernel_rfl
  obtain ⟨v, n, m, f, D, Pl, sp, rfl, hr, hf, hx⟩ := open_sl Try.underlying40 h
  rw [hc] at hr hf
  obtain ⟨g, hg⟩ := Deep.choose_lt (α := Int) (n := n) (p := fun i z => f i = [.int .i64 z]) (fun i hi => by
    obtain ⟨z, hz, _⟩ := DataW.trod_int Try.underlying2 (hf i hi).2
    exact ⟨z, hz⟩)
  have he : ((List.range n).map f).flatten = ints ((List.range n).map g) := by
    rw [show (List.range n).map f = (List.range n).map (fun i => [Value.int .i64 (g i)]) from List.map_congr_left (fun i hi => hg i (List.mem_range.1 hi))]
    simp only [ints, List.map_map]
    exact flat_one (I ∘ g) (List.range n)
  refine ⟨v, (List.range n).map g, rfl, ?_, ?_⟩
  · rw [he] at hr
    have hn : ((List.range n).map g).length = n := by simp
    show RdC w 1 v ((List.range n).map g).length _
    rw [hn]
    exact hr
  · simp only [List.length_map, List.length_range]
    rcases hx with ⟨rfl, _⟩ | hx
    · omega
    · rw [hx]
      have := bulk_len ((List.range n).map D)
      simp only [Rows.uptoBulk]
      simp at this
      omega

theorem open_in {fuel : Nat} {cs : List Value} {x : DataW H × List MemPlace} (h : DataW.trod enc Try.prog w 0 spare held fuel 42 cs = some x) :
    ∃ p : In × Value, cs = row p ∧ RdI w p.2 p.1.d ∧ p.1.d.length ≤ Rows.uptoBulk x.1 := by
  obtain ⟨y0, y1, y2, y3, n, rfl, hl, h0, h1, h2, h3⟩ := Go.Joins.trod_struct4 Try.underlying42 h
  have c4 : Try.prog.cellsOf 42 = 4 := by kernel_rfl
  have c1 : Try.prog.cellsOf 3 = 1 := by kernel_rfl
  have c2 : Try.prog.cellsOf 40 = 1 := by kernel_rfl
  rw [c4] at hl
  match cs, hl with
  | [a0, a1, a2, a3], _ =>
    simp only [c1, c2, List.drop_zero, List.drop_succ_cons, List.take_succ_cons, List.take_zero] at h0 h1 h2 h3
    obtain ⟨z0, e0, _⟩ := DataW.trod_int Try.underlying3 h0
    obtain ⟨z1, e1, _⟩ := DataW.trod_int Try.underlying3 h1
    obtain ⟨z2, e2, _⟩ := DataW.trod_int Try.underlying3 h2
    obtain ⟨v, d, e3, hd, hb⟩ := open_rdi h3
    cases e0; cases e1; cases e2; cases e3
    refine ⟨(⟨z0, z1, z2, d⟩, a3), rfl, hd, ?_⟩
    have h5 := bulk_part (d := y3.1) (l := [y0.1, y1.1, y2.1, y3.1]) (by simp)
    simp only [Rows.uptoBulk]
    omega

theorem open_ins {fuel : Nat} {cs : List Value} {x : DataW H × List MemPlace} (h : DataW.trod enc Try.prog w 0 spare held fuel 22 cs = some x) :
    ∃ (v : Value) (ps : List (In × Value)), cs = [v] ∧ InsR w v ps ∧ ps.length ≤ Rows.uptoBulk x.1 ∧ ∀ p ∈ ps, p.1.d.length ≤ Rows.uptoBulk x.1 := by
  have hc : Try.prog.cellsOf 42 = 4 := by kernel_rfl
  obtain ⟨v, n, m, f, D, Pl, sp, rfl, hr, hf, hx⟩ := open_sl Try.underlying22 h
  rw [hc] at hr hf
  obtain ⟨g, hg⟩ := Deep.choose_lt (α := In × Value) (n := n) (p := fun i p => f i = row p ∧ RdI w p.2 p.1.d ∧ p.1.d.length ≤ Rows.uptoBulk (D i)) (fun i hi => open_in (hf i hi).2)
  have he : ((List.range n).map f).flatten = rows ((List.range n).map g) := by
    rw [show (List.range n).map f = (List.range n).map (fun i => row (g i)) from List.map_congr_left (fun i hi => (hg i (List.mem_range.1 hi)).1)]
    simp only [rows, List.map_map]
    rfl
  refine ⟨v, (List.range n).map g, rfl, ⟨?_, ?_⟩, ?_, ?_⟩
  · rw [he] at hr
    simpa using hr
  · intro p hp
    obtain ⟨i, hi, rfl⟩ := List.mem_map.1 hp
    exact (hg i (List.mem_range.1 hi)).2.1
  · simp only [List.length_map, List.length_range]
    rcases hx with ⟨rfl, _⟩ | hx
    · omega
    · rw [hx]
      have := bulk_len ((List.range n).map D)
      simp only [Rows.uptoBulk]
      simp at this
      omega
  · intro p hp
    obtain ⟨i, hi, rfl⟩ := List.mem_map.1 hp
    have hi' := List.mem_range.1 hi
    rcases hx with ⟨rfl, _⟩ | hx
    · omega
    · rw [hx]
      have h1 := (hg i hi').2.2
      have h2 := bulk_part (d := D i) (l := (List.range n).map D) (List.mem_map.2 ⟨i, hi, rfl⟩)
      simp only [Rows.uptoBulk]
      omega
end


section
variable {H : Type} {enc : TypeId × Value → H} {w : World} {spare : Nat → Bool} {held : Bool}
theorem open_rdb {fuel : Nat} {cs : List Value} {x : DataW H × List MemPlace} (h : DataW.trod enc Try.prog w 0 spare held fuel 32 cs = some x) :
    ∃ (v : Value) (d : List Nat), cs = [v] ∧ RdB w v d ∧ (∀ c ∈ d, c < 256) ∧ d.length ≤ Rows.uptoBulk x.1 := by
  have hc : Try.prog.cellsOf 5 = 1 := by kernel_rfl
  obtain ⟨v, n, m, f, D, Pl, sp, rfl, hr, hf, hx⟩ := open_sl Try.underlying32 h
  rw [hc] at hr hf
  obtain ⟨g, hg⟩ := Deep.choose_lt (α := Nat) (n := n) (p := fun i z => f i = [.int .u8 z] ∧ z < 256) (fun i hi => by
    obtain ⟨z, hz, _, hw⟩ := DataW.trod_int Try.underlying5 (hf i hi).2
    have hz2 : 0 ≤ z ∧ z < 256 := by
      simp [Lit.wf, IntKind.min, IntKind.max, IntKind.signed, IntKind.bits] at hw
      omega
    exact ⟨z.toNat, by rw [hz, Int.toNat_of_nonneg hz2.1], by omega⟩)
  have he : ((List.range n).map f).flatten = bys ((List.range n).map g) := by
    rw [show (List.range n).map f = (List.range n).map (fun i => [Value.int .u8 (g i)]) from List.map_congr_left (fun i hi => (hg i (List.mem_range.1 hi)).1)]
    simp only [bys, List.map_map]
    exact flat_one (B ∘ g) (List.range n)
  refine ⟨v, (List.range n).map g, rfl, ?_, ?_, ?_⟩
  · rw [he] at hr
    have hn : ((List.range n).map g).length = n := by simp
    show RdC w 1 v ((List.range n).map g).length _
    rw [hn]
    exact hr
  · intro c hc
    obtain ⟨i, hi, rfl⟩ := List.mem_map.1 hc
    exact (hg i (List.mem_range.1 hi)).2
  · simp only [List.length_map, List.length_range]
    rcases hx with ⟨rfl, _⟩ | hx
    · omega
    · rw [hx]
      have := bulk_len ((List.range n).map D)
      simp only [Rows.uptoBulk]
      simp at this
      omega
end

theorem bytes_contract (H : Type) (enc : TypeId × Value → H) (W : World) (base : Nat) (args : Array Value) (ds gs : List (DataW H)) (before : List MemPlace)
    (hval : ∀ (j : Nat) t v, Try.f4.params[j]? = some t → args[j]? = some v → Value.okWide Try.prog W .any base t v)
    (hW : DataW.Whole enc Try.prog Try.f4.params.toList Rows.scriptBytesSpec.vars false W args.toList ds gs before) (hk : Rows.uptoSmall H (ds ++ gs) = true) :
    Calls Try.prog 4 args W fun e W' => ∃ v, e = .returned v ∧ Rows.scriptBytesSpec.post enc Try.prog Try.f4 false true false false W args v W' := by
  have hW' := hW
  obtain ⟨p, q, hA, hV, rfl, hfz, hnd⟩ := hW
  rw [Try.params4] at hA hval
  obtain ⟨v0, vs0, d0, ds0, p0, q0, hargs, rfl, rfl, h0, r0⟩ := trodAll_cons hA
  obtain ⟨v1, vs1, d1, ds1, p1, q1, rfl, rfl, rfl, h1, r1⟩ := trodAll_cons r0
  obtain ⟨rfl, rfl, rfl⟩ := trodAll_nil r1
  obtain rfl : args = #[v0, v1] := by cases args; simp_all
  obtain ⟨rfl, rfl⟩ := trodVars_none hV
  have hb : Rows.uptoBulkAll [d0, d1] ≤ 1048576 := by
    have := of_decide_eq_true hk
    simpa using this
  have hb0 := bulk_part (d := d0) (l := [d0, d1]) (by simp)
  have hb1 := bulk_part (d := d1) (l := [d0, d1]) (by simp)
  obtain ⟨a0, l0, c0, rfl⟩ := okWide_slice Try.underlying22 (hval 0 _ _ rfl rfl)
  obtain ⟨a1, l1, c1, rfl⟩ := okWide_slice Try.underlying32 (hval 1 _ _ rfl rfl)
  obtain ⟨n0, h0⟩ := h0
  obtain ⟨n1, h1⟩ := h1
  obtain ⟨v, ps, e0, hp, hpl, hpd⟩ := open_ins h0
  obtain ⟨u, l, e1, hu, hub, hul⟩ := open_rdb h1
  simp only [Value.cells, List.cons.injEq, and_true] at e0 e1
  subst e0 e1
  refine (F4_calls (K := fun v W' => v = .bool true ∧ Tr W no W') (bytes_spec hp (Nat.le_trans hpl (Nat.le_trans hb0 hb)) (fun p h => Nat.le_trans (hpd p h) (Nat.le_trans hb0 hb)) hu (Nat.le_trans hul (Nat.le_trans hb1 hb)) hub (fun w' ht => ⟨rfl, ht⟩))).mono ?_
  rintro e W' ⟨v, rfl, rfl, ht⟩
  exact ⟨_, rfl, post_true (by kernel_rfl) (by kernel_rfl) rfl Try.underlying4 hW' rfl rfl ht⟩

theorem bytes_own : ownKnob Try.prog.godebug = none := by kernel_rfl

set_option maxRecDepth 100000 in
theorem bytes_lifted (os : Os) (started : os.Started) (H : Type) (enc : TypeId × Value → H) (F : Stop.Interp) :
    ReturnsInHanded {} Try.checked os 4 .any ((Rows.OpenSpec.upto Rows.scriptBytesSpec).pre6 enc Try.prog Try.f4 Rows.scriptBytesUptoRow.domain false) (((Rows.OpenSpec.upto Rows.scriptBytesSpec).at F).post enc Try.prog Try.f4 false true false false) := by
  refine returnsInHanded_of_cond (C := Try.checked) (s := Rows.OpenSpec.upto Rows.scriptBytesSpec) (k := Rows.uptoSmall) rfl bytes_own started (by kernel_rfl) Try.func4
    (OpenSpec.witness (enc := enc) (C := Try.checked) (s := Rows.OpenSpec.upto Rows.scriptBytesSpec) (k := Rows.uptoSmall) rfl false ⟨#[], #[.slice none 0 0, .slice none 0 0], []⟩ 8 (by kernel_rfl) (by kernel_rfl) (by kernel_rfl)
      (x := ([.nil, .nil], [], [])) (by kernel_rfl) rfl (by kernel_rfl)) ?_
  intro W base args ds gs before hval hW _ hk _
  exact bytes_contract H enc W base args ds gs before hval hW hk

theorem ScriptBytes_holds : Rows.ScriptBytesUptoSaid :=
  OpenClaim.holds_of_cond 4 Try.f4 rfl rfl rfl rfl rfl rfl rfl ⟨rfl, rfl, rfl, rfl, rfl⟩ rfl rfl rfl rfl rfl (by kernel_rfl) Try.func4 (by kernel_rfl)
    (of_decide_eq_true (by kernel_rfl)) (by unfold Func.isWrapper; first | (rw [if_pos (by decide +kernel)]; kernel_rfl) | (rw [if_neg (by decide +kernel)]; exact ⟨rfl, rfl⟩))
    (fun os started H enc _ F => bytes_lifted os started H enc F)
end Go.Proofs.Ytcghhhjklihpkaa
#print axioms Go.Proofs.Ytcghhhjklihpkaa.ScriptBytes_holds
