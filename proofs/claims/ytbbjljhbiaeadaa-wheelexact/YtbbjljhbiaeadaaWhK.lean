/- WheelFires: whatever the input: each timer runs out once, at its tick, in order; in whatever steps one goes on, the same is told: the row. -/
import Derived.Test.YtbbjljhbiaeadaaWhJ
import Derived.Test.YtbbjljhbiaeadaaRow
import Derived.Test.YtbbjljhbiaeadaaRows
import Derived.Shelf.Sort.Plain
import Derived.Shelf.Lay
import Derived.Ground.NamesProg
set_option linter.unusedSimpArgs false
set_option linter.unusedVariables false
set_option maxRecDepth 100000
namespace Go.Proofs.Ytbbjljhbiaeadaa
open Go.Shelf
shelf_lay Lays.n189 Nm 189 at Try as Try.laysSort
end Go.Proofs.Ytbbjljhbiaeadaa

namespace Go.Proofs.Ytbbjljhbiaeadaa
open Go.Bk Go.RowKit Go.ChangeShapes Go.WideShapes Go.ChangeAt

theorem sortOK : SortOK := fun blk off cap zs w h1 h2 h3 => Any.slices_Sort_int Try.laysSort blk off cap zs w h1 h2 h3

section
variable {H : Type} {enc : TypeId × Value → H} {w : World} {spare : Nat → Bool} {held : Bool}

theorem flat_one {α : Type} (h : α → Value) (l : List α) : (l.map fun i => [h i]).flatten = l.map h := by
  induction l with
  | nil => rfl
  | cons a l ih => simp only [List.map_cons, List.flatten_cons, ih]; rfl

theorem open_rdi {fuel : Nat} {cs : List Value} {x : DataW H × List MemPlace} (h : DataW.trod enc Try.prog w 0 spare held fuel 23 cs = some x) :
    ∃ (v : Value) (d : List Int), cs = [v] ∧ RdI w v d ∧ d.length ≤ 9223372036854775807 := by
  have hc : Try.prog.cellsOf 3 = 1 := by kernel_rfl
  obtain ⟨v, n, m, f, D, Pl, sp, rfl, hml, hr, hf, hx⟩ := open_sl Try.underlying23 h
  rw [hc] at hr hf
  obtain ⟨g, hg⟩ := Deep.choose_lt (α := Int) (n := n) (p := fun i z => f i = [.int .i64 z]) (fun i hi => by
    obtain ⟨z, hz, _⟩ := DataW.trod_int Try.underlying3 (hf i hi).2
    exact ⟨z, hz⟩)
  have he : ((List.range n).map f).flatten = ints ((List.range n).map g) := by
    rw [show (List.range n).map f = (List.range n).map (fun i => [Value.int .i64 (g i)]) from List.map_congr_left (fun i hi => hg i (List.mem_range.1 hi))]
    simp only [ints, List.map_map]
    exact flat_one (I ∘ g) (List.range n)
  have hn : ((List.range n).map g).length = n := by simp
  refine ⟨v, (List.range n).map g, rfl, ?_, by rw [hn]; unfold maxLen at hml; omega⟩
  rw [he] at hr
  show RdC w 1 v ((List.range n).map g).length _
  rw [hn]
  exact hr

theorem open_fir {fuel : Nat} {cs : List Value} {x : DataW H × List MemPlace} (h : DataW.trod enc Try.prog w 0 spare held fuel 34 cs = some x) : ∃ e : Int × Int, cs = frow e := by
  obtain ⟨y0, y1, n, rfl, hl, h0, h1⟩ := trod_struct2 Try.underlying34 h
  have c2 : Try.prog.cellsOf 34 = 2 := by kernel_rfl
  have c1 : Try.prog.cellsOf 3 = 1 := by kernel_rfl
  rw [c2] at hl
  match cs, hl with
  | [a0, a1], _ =>
    simp only [c1, List.drop_zero, List.drop_succ_cons, List.take_succ_cons, List.take_zero] at h0 h1
    obtain ⟨z0, e0, _⟩ := DataW.trod_int Try.underlying3 h0
    obtain ⟨z1, e1, _⟩ := DataW.trod_int Try.underlying3 h1
    cases e0; cases e1
    exact ⟨(z0, z1), rfl⟩
theorem open_firs {fuel : Nat} {cs : List Value} {x : DataW H × List MemPlace} (h : DataW.trod enc Try.prog w 0 spare held fuel 22 cs = some x) :
    ∃ (v : Value) (d : List (Int × Int)), cs = [v] ∧ RdF w v d ∧ d.length ≤ 9223372036854775807 := by
  have hc : Try.prog.cellsOf 34 = 2 := by kernel_rfl
  obtain ⟨v, n, m, f, D, Pl, sp, rfl, hml, hr, hf, hx⟩ := open_sl Try.underlying22 h
  rw [hc] at hr hf
  obtain ⟨g, hg⟩ := Deep.choose_lt (α := Int × Int) (n := n) (p := fun i z => f i = frow z) (fun i hi => open_fir (hf i hi).2)
  have he : ((List.range n).map f).flatten = frows ((List.range n).map g) := by
    rw [show (List.range n).map f = (List.range n).map (fun i => frow (g i)) from List.map_congr_left (fun i hi => hg i (List.mem_range.1 hi))]
    simp only [frows, List.map_map]
    rfl
  have hn : ((List.range n).map g).length = n := by simp
  refine ⟨v, (List.range n).map g, rfl, ?_, by rw [hn]; unfold maxLen at hml; omega⟩
  rw [he] at hr
  show RdC w 2 v ((List.range n).map g).length _
  rw [hn]
  exact hr
end

theorem fires_contract (H : Type) (enc : TypeId × Value → H) (W : World) (base : Nat) (args : Array Value) (ds gs : List (DataW H)) (before : List MemPlace)
    (hval : ∀ (j : Nat) t v, Try.f3.params[j]? = some t → args[j]? = some v → Value.okWide Try.prog W .any base t v)
    (hW : DataW.Whole enc Try.prog Try.f3.params.toList Rows.wheelFiresSpec.vars false W args.toList ds gs before) :
    Calls Try.prog 3 args W fun e W' => ∃ v, e = .returned v ∧ Rows.wheelFiresSpec.post enc Try.prog Try.f3 false true false false W args v W' := by
  have hW' := hW
  obtain ⟨p, q, hA, hV, rfl, hfz, hnd⟩ := hW
  rw [Try.params3] at hA hval
  obtain ⟨v0, vs0, d0, ds0, p0, q0, hargs, rfl, rfl, h0, r0⟩ := trodAll_cons hA
  obtain ⟨v1, vs1, d1, ds1, p1, q1, rfl, rfl, rfl, h1, r1⟩ := trodAll_cons r0
  obtain ⟨v2, vs2, d2, ds2, p2, q2, rfl, rfl, rfl, h2, r2⟩ := trodAll_cons r1
  obtain ⟨rfl, rfl, rfl⟩ := trodAll_nil r2
  obtain rfl : args = #[v0, v1, v2] := by cases args; simp_all
  obtain ⟨rfl, rfl⟩ := trodVars_none hV
  obtain ⟨now, rfl, rfl, rfl, _⟩ := open_int Try.underlying3 (hval 0 _ _ rfl rfl) h0
  obtain ⟨a1, l1, c1, rfl⟩ := okWide_slice Try.underlying22 (hval 1 _ _ rfl rfl)
  obtain ⟨a2, l2, c2, rfl⟩ := okWide_slice Try.underlying23 (hval 2 _ _ rfl rfl)
  obtain ⟨n1, h1⟩ := h1
  obtain ⟨n2, h2⟩ := h2
  obtain ⟨v, arms, e1, ha, hal⟩ := open_firs h1
  obtain ⟨u, steps, e2, hs, hsl⟩ := open_rdi h2
  simp only [Value.cells, List.cons.injEq, and_true] at e1 e2
  subst e1 e2
  refine (F3_calls (K := fun v W' => v = .bool true ∧ Tr W no W') (fires_spec sortOK ha hs hal hsl now (fun w' hs' => ⟨rfl, hs'.tr⟩))).mono ?_
  rintro e W' ⟨v, rfl, rfl, ht⟩
  exact ⟨_, rfl, post_true (by kernel_rfl) (by kernel_rfl) rfl Try.underlying4 hW' rfl rfl ht⟩

theorem wheel_own : ownKnob Try.prog.godebug = none := by kernel_rfl

theorem fires_lifted (os : Os) (started : os.Started) (H : Type) (enc : TypeId × Value → H) :
    ReturnsInHanded {} Try.checked os 3 .any (Rows.wheelFiresSpec.pre6 enc Try.prog Try.f3 Rows.wheelFiresRow.domain false) (Rows.wheelFiresSpec.post enc Try.prog Try.f3 false true false false) := by
  refine returnsInHanded_of_change (C := Try.checked) wheel_own started (by kernel_rfl) Try.func3
    (ChangeSpec.witness6 (enc := enc) (C := Try.checked) false ⟨#[], #[.int .i64 0, .slice none 0 0, .slice none 0 0], []⟩ 8 (by kernel_rfl) (by kernel_rfl) (by kernel_rfl) (by kernel_rfl)) ?_
  intro W base args ds gs before hval hW _ _
  exact fires_contract H enc W base args ds gs before hval hW

theorem WheelFires_holds : Rows.WheelFiresSaid :=
  OpenClaim.holds_of_wide 3 Try.f3 rfl rfl rfl rfl rfl rfl rfl ⟨rfl, rfl, rfl, rfl, rfl⟩ rfl rfl rfl rfl rfl (by kernel_rfl) Try.func3 (by kernel_rfl)
    (of_decide_eq_true (by kernel_rfl)) (by unfold Func.isWrapper; first | (rw [if_pos (by decide +kernel)]; kernel_rfl) | (rw [if_neg (by decide +kernel)]; exact ⟨rfl, rfl⟩))
    (fun os started H enc _ => fires_lifted os started H enc)
end Go.Proofs.Ytbbjljhbiaeadaa
#print axioms Go.Proofs.Ytbbjljhbiaeadaa.WheelFires_holds
