/- WheelExact: two wheels beside one another, any calls in any order: every answer is the document's; what was told is its holder's: the row. -/
import Derived.Test.YtbbjljhbiaeadaaWhM
import Derived.Test.YtbbjljhbiaeadaaWhT
set_option linter.unusedSimpArgs false
set_option linter.unusedVariables false
set_option maxRecDepth 100000
namespace Go.Proofs.Ytbbjljhbiaeadaa
open Go.Bk Go.RowKit Go.ChangeShapes Go.WideShapes Go.ChangeAt

section
variable {H : Type} {enc : TypeId × Value → H} {w : World} {spare : Nat → Bool} {held : Bool}
theorem trod_field {P : Program} {t : TypeId} {fs : Array Field} {fuel : Nat} {cs : List Value} {x : DataW H × List MemPlace} (ht : P.underlying t = some (.struct fs)) (h : DataW.trod enc P w 0 spare held fuel t cs = some x) :
    cs.length = P.cellsOf t ∧ ∃ n, ∀ (i : Nat) (f : Field), fs[i]? = some f → ∃ y, DataW.trod enc P w 0 spare held n f.type ((cs.drop f.offset).take (P.cellsOf f.type)) = some y := by
  obtain ⟨xs, n, _, rfl, hl, hlen, hf⟩ := DataW.trod_struct ht h
  refine ⟨hl, n, fun i f hi => ?_⟩
  have hlt : i < xs.length := by rw [hlen]; exact (Array.getElem?_eq_some_iff.1 hi).1
  exact ⟨xs[i], by rw [hf i f hi, List.getElem?_eq_getElem hlt]⟩
theorem open_op {fuel : Nat} {cs : List Value} {x : DataW H × List MemPlace} (h : DataW.trod enc Try.prog w 0 spare held fuel 54 cs = some x) : ∃ e : Op, cs = opC e := by
  obtain ⟨hl, n, hf⟩ := trod_field Try.underlying54 h
  have c4 : Try.prog.cellsOf 54 = 4 := by kernel_rfl
  have c1 : Try.prog.cellsOf 3 = 1 := by kernel_rfl
  have cb : Try.prog.cellsOf 4 = 1 := by kernel_rfl
  rw [c4] at hl
  match cs, hl with
  | [a0, a1, a2, a3], _ =>
    obtain ⟨y0, h0⟩ : ∃ y, DataW.trod enc Try.prog w 0 spare held n 3 (([a0, a1, a2, a3].drop 0).take (Try.prog.cellsOf 3)) = some y := hf 0 _ rfl
    obtain ⟨y1, h1⟩ : ∃ y, DataW.trod enc Try.prog w 0 spare held n 4 (([a0, a1, a2, a3].drop 1).take (Try.prog.cellsOf 4)) = some y := hf 1 _ rfl
    obtain ⟨y2, h2⟩ : ∃ y, DataW.trod enc Try.prog w 0 spare held n 3 (([a0, a1, a2, a3].drop 2).take (Try.prog.cellsOf 3)) = some y := hf 2 _ rfl
    obtain ⟨y3, h3⟩ : ∃ y, DataW.trod enc Try.prog w 0 spare held n 3 (([a0, a1, a2, a3].drop 3).take (Try.prog.cellsOf 3)) = some y := hf 3 _ rfl
    simp only [c1, cb, List.drop_zero, List.drop_succ_cons, List.take_succ_cons, List.take_zero] at h0 h1 h2 h3
    obtain ⟨z0, e0, _⟩ := DataW.trod_int Try.underlying3 h0
    obtain ⟨z1, e1, _⟩ := DataW.trod_bool Try.underlying4 h1
    obtain ⟨z2, e2, _⟩ := DataW.trod_int Try.underlying3 h2
    obtain ⟨z3, e3, _⟩ := DataW.trod_int Try.underlying3 h3
    cases e0; cases e1; cases e2; cases e3
    exact ⟨⟨z0, z1, z2, z3⟩, rfl⟩
instance : Inhabited Op := ⟨⟨0, false, 0, 0⟩⟩
theorem open_ops {fuel : Nat} {cs : List Value} {x : DataW H × List MemPlace} (h : DataW.trod enc Try.prog w 0 spare held fuel 43 cs = some x) :
    ∃ (v : Value) (d : List Op), cs = [v] ∧ RdO w v d ∧ d.length ≤ 9223372036854775807 := by
  have hc : Try.prog.cellsOf 54 = 4 := by kernel_rfl
  obtain ⟨v, n, m, f, D, Pl, sp, rfl, hml, hr, hf, hx⟩ := open_sl Try.underlying43 h
  rw [hc] at hr hf
  obtain ⟨g, hg⟩ := Deep.choose_lt (α := Op) (n := n) (p := fun i z => f i = opC z) (fun i hi => open_op (hf i hi).2)
  have he : ((List.range n).map f).flatten = (((List.range n).map g).map opC).flatten := by
    rw [show (List.range n).map f = (List.range n).map (fun i => opC (g i)) from List.map_congr_left (fun i hi => hg i (List.mem_range.1 hi))]
    simp only [List.map_map]
    rfl
  have hn : ((List.range n).map g).length = n := by simp
  refine ⟨v, (List.range n).map g, rfl, ?_, by rw [hn]; unfold maxLen at hml; omega⟩
  rw [he] at hr
  show RdC w 4 v ((List.range n).map g).length _
  rw [hn]
  exact hr
end

theorem exact_contract (H : Type) (enc : TypeId × Value → H) (W : World) (base : Nat) (args : Array Value) (ds gs : List (DataW H)) (before : List MemPlace)
    (hval : ∀ (j : Nat) t v, Try.f5.params[j]? = some t → args[j]? = some v → Value.okWide Try.prog W .any base t v)
    (hW : DataW.Whole enc Try.prog Try.f5.params.toList Rows.wheelExactSpec.vars false W args.toList ds gs before) :
    Calls Try.prog 5 args W fun e W' => ∃ v, e = .returned v ∧ Rows.wheelExactSpec.post enc Try.prog Try.f5 false true false false W args v W' := by
  have hW' := hW
  obtain ⟨p, q, hA, hV, rfl, hfz, hnd⟩ := hW
  rw [Try.params5] at hA hval
  obtain ⟨v0, vs0, d0, ds0, p0, q0, hargs, rfl, rfl, h0, r0⟩ := trodAll_cons hA
  obtain ⟨v1, vs1, d1, ds1, p1, q1, rfl, rfl, rfl, h1, r1⟩ := trodAll_cons r0
  obtain ⟨v2, vs2, d2, ds2, p2, q2, rfl, rfl, rfl, h2, r2⟩ := trodAll_cons r1
  obtain ⟨rfl, rfl, rfl⟩ := trodAll_nil r2
  obtain rfl : args = #[v0, v1, v2] := by cases args; simp_all
  obtain ⟨rfl, rfl⟩ := trodVars_none hV
  obtain ⟨now, rfl, rfl, rfl, _⟩ := open_int Try.underlying3 (hval 0 _ _ rfl rfl) h0
  obtain ⟨then_, rfl, rfl, rfl, _⟩ := open_int Try.underlying3 (hval 1 _ _ rfl rfl) h1
  obtain ⟨a2, l2, c2, rfl⟩ := okWide_slice Try.underlying43 (hval 2 _ _ rfl rfl)
  obtain ⟨n2, h2⟩ := h2
  obtain ⟨v, script, e2, hsc, hsl⟩ := open_ops h2
  simp only [Value.cells, List.cons.injEq, and_true] at e2
  subst e2
  refine (F5_calls (K := fun v W' => v = .bool true ∧ Tr W no W') (exact_spec sortOK hsc now then_ (fun w' hs' => ⟨rfl, hs'.tr⟩))).mono ?_
  rintro e W' ⟨v, rfl, rfl, ht⟩
  exact ⟨_, rfl, post_true (by kernel_rfl) (by kernel_rfl) rfl Try.underlying4 hW' rfl rfl ht⟩

theorem exact_lifted (os : Os) (started : os.Started) (H : Type) (enc : TypeId × Value → H) :
    ReturnsInHanded {} Try.checked os 5 .any (Rows.wheelExactSpec.pre6 enc Try.prog Try.f5 Rows.wheelExactRow.domain false) (Rows.wheelExactSpec.post enc Try.prog Try.f5 false true false false) := by
  refine returnsInHanded_of_change (C := Try.checked) wheel_own started (by kernel_rfl) Try.func5
    (ChangeSpec.witness6 (enc := enc) (C := Try.checked) false ⟨#[], #[.int .i64 0, .int .i64 0, .slice none 0 0], []⟩ 8 (by kernel_rfl) (by kernel_rfl) (by kernel_rfl) (by kernel_rfl)) ?_
  intro W base args ds gs before hval hW _ _
  exact exact_contract H enc W base args ds gs before hval hW

theorem WheelExact_holds : Rows.WheelExactSaid :=
  OpenClaim.holds_of_wide 5 Try.f5 rfl rfl rfl rfl rfl rfl rfl ⟨rfl, rfl, rfl, rfl, rfl⟩ rfl rfl rfl rfl rfl (by kernel_rfl) Try.func5 (by kernel_rfl)
    (of_decide_eq_true (by kernel_rfl)) (by unfold Func.isWrapper; first | (rw [if_pos (by decide +kernel)]; kernel_rfl) | (rw [if_neg (by decide +kernel)]; exact ⟨rfl, rfl⟩))
    (fun os started H enc _ => exact_lifted os started H enc)
end Go.Proofs.Ytbbjljhbiaeadaa
#print axioms Go.Proofs.Ytbbjljhbiaeadaa.WheelExact_holds
