/- WheelForgets: whatever the input: arming a timer anew, or cancelling it, changes nothing for the others: the row. -/
import Derived.Test.YtbbjljhbiaeadaaWhK
import Derived.Test.YtbbjljhbiaeadaaWhL
set_option linter.unusedSimpArgs false
set_option linter.unusedVariables false
set_option maxRecDepth 100000
namespace Go.Proofs.Ytbbjljhbiaeadaa
open Go.Bk Go.RowKit Go.ChangeShapes Go.WideShapes Go.ChangeAt

theorem forgets_contract (H : Type) (enc : TypeId × Value → H) (W : World) (base : Nat) (args : Array Value) (ds gs : List (DataW H)) (before : List MemPlace)
    (hval : ∀ (j : Nat) t v, Try.f4.params[j]? = some t → args[j]? = some v → Value.okWide Try.prog W .any base t v)
    (hW : DataW.Whole enc Try.prog Try.f4.params.toList Rows.wheelForgetsSpec.vars false W args.toList ds gs before) :
    Calls Try.prog 4 args W fun e W' => ∃ v, e = .returned v ∧ Rows.wheelForgetsSpec.post enc Try.prog Try.f4 false true false false W args v W' := by
  have hW' := hW
  obtain ⟨p, q, hA, hV, rfl, hfz, hnd⟩ := hW
  rw [Try.params4] at hA hval
  obtain ⟨v0, vs0, d0, ds0, p0, q0, hargs, rfl, rfl, h0, r0⟩ := trodAll_cons hA
  obtain ⟨v1, vs1, d1, ds1, p1, q1, rfl, rfl, rfl, h1, r1⟩ := trodAll_cons r0
  obtain ⟨v2, vs2, d2, ds2, p2, q2, rfl, rfl, rfl, h2, r2⟩ := trodAll_cons r1
  obtain ⟨v3, vs3, d3, ds3, p3, q3, rfl, rfl, rfl, h3, r3⟩ := trodAll_cons r2
  obtain ⟨v4, vs4, d4, ds4, p4, q4, rfl, rfl, rfl, h4, r4⟩ := trodAll_cons r3
  obtain ⟨rfl, rfl, rfl⟩ := trodAll_nil r4
  obtain rfl : args = #[v0, v1, v2, v3, v4] := by cases args; simp_all
  obtain ⟨rfl, rfl⟩ := trodVars_none hV
  obtain ⟨now, rfl, rfl, rfl, _⟩ := open_int Try.underlying3 (hval 0 _ _ rfl rfl) h0
  obtain ⟨a1, l1, c1, rfl⟩ := okWide_slice Try.underlying22 (hval 1 _ _ rfl rfl)
  obtain ⟨id, rfl, rfl, rfl, _⟩ := open_int Try.underlying3 (hval 2 _ _ rfl rfl) h2
  obtain ⟨tick, rfl, rfl, rfl, _⟩ := open_int Try.underlying3 (hval 3 _ _ rfl rfl) h3
  obtain ⟨anew, rfl, rfl, rfl⟩ := open_bool Try.underlying4 (hval 4 _ _ rfl rfl) h4
  obtain ⟨n1, h1⟩ := h1
  obtain ⟨v, arms, e1, ha, hal⟩ := open_firs h1
  simp only [Value.cells, List.cons.injEq, and_true] at e1
  subst e1
  refine (F4_calls (K := fun v W' => v = .bool true ∧ Tr W no W') (forgets_spec sortOK ha hal now id tick anew (fun w' hs' => ⟨rfl, hs'.tr⟩))).mono ?_
  rintro e W' ⟨v, rfl, rfl, ht⟩
  exact ⟨_, rfl, post_true (by kernel_rfl) (by kernel_rfl) rfl Try.underlying4 hW' rfl rfl ht⟩

theorem forgets_lifted (os : Os) (started : os.Started) (H : Type) (enc : TypeId × Value → H) :
    ReturnsInHanded {} Try.checked os 4 .any (Rows.wheelForgetsSpec.pre6 enc Try.prog Try.f4 Rows.wheelForgetsRow.domain false) (Rows.wheelForgetsSpec.post enc Try.prog Try.f4 false true false false) := by
  refine returnsInHanded_of_change (C := Try.checked) wheel_own started (by kernel_rfl) Try.func4
    (ChangeSpec.witness6 (enc := enc) (C := Try.checked) false ⟨#[], #[.int .i64 0, .slice none 0 0, .int .i64 0, .int .i64 0, .bool false], []⟩ 8 (by kernel_rfl) (by kernel_rfl) (by kernel_rfl) (by kernel_rfl)) ?_
  intro W base args ds gs before hval hW _ _
  exact forgets_contract H enc W base args ds gs before hval hW

theorem WheelForgets_holds : Rows.WheelForgetsSaid :=
  OpenClaim.holds_of_wide 4 Try.f4 rfl rfl rfl rfl rfl rfl rfl ⟨rfl, rfl, rfl, rfl, rfl⟩ rfl rfl rfl rfl rfl (by kernel_rfl) Try.func4 (by kernel_rfl)
    (of_decide_eq_true (by kernel_rfl)) (by unfold Func.isWrapper; first | (rw [if_pos (by decide +kernel)]; kernel_rfl) | (rw [if_neg (by decide +kernel)]; exact ⟨rfl, rfl⟩))
    (fun os started H enc _ => forgets_lifted os started H enc)
end Go.Proofs.Ytbbjljhbiaeadaa
#print axioms Go.Proofs.Ytbbjljhbiaeadaa.WheelForgets_holds
