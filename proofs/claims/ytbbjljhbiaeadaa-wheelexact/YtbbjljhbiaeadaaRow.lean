/- Rows: a law that answers true and leaves all as it was. -/
import Derived.Test.YtbbjljhbiaeadaaRead
import Derived.ProofKit
import Derived.JoinedCond
set_option linter.unusedSimpArgs false
set_option linter.unusedVariables false
namespace Go.Bk
open Go.RowKit Go.ChangeShapes Go.WideShapes Go.ChangeAt

theorem post_true {H : Type} {enc : TypeId × Value → H} {P : Program} {f : Func} {s : ChangeSpec} {apart fresh handsOn again : Bool} {W W' : World} {args : Array Value} {ds gs : List (DataW H)} {before : List MemPlace} {tb : TypeId}
    (hl : laidOutB P = true) (hr : (f.params.toList.all fun t => P.readableRec t && decide (t < P.types.size)) = true) (hres : f.resultTypes = #[tb]) (htb : P.underlying tb = some .bool)
    (hW : DataW.Whole enc P f.params.toList s.vars apart W args.toList ds gs before) (hv : s.vars = []) (hs : s.fn H (ds ++ gs) = { results := [.lit (.bool true)], args := ds }) (ht : Tr W no W') :
    s.post enc P f apart fresh handsOn again W args (.bool true) W' := by
  have hb := ht.below
  have hlt := hW.lt
  have hW2 := hW
  obtain ⟨p, q, hA, hV, rfl, hz, hnd⟩ := hW
  rw [hv] at hV
  obtain ⟨rfl, rfl⟩ := trodVars_none hV
  have hrr : ∀ t ∈ f.params.toList, P.readableRec t = true ∧ t < P.types.size := fun t ht => by
    have := (List.all_eq_true.1 hr) t ht
    simpa using this
  have hargs : ∀ sp : Nat → Bool, (∀ x ∈ p, sp x.block = true) → DataW.TrodAll enc P W' 0 sp true f.params.toList args.toList ds p := fun sp hsp =>
    trodAll_stays hl hrr hA (fun x hx => hb.same (hlt x (List.mem_append_left _ hx))) hsp
  have hrl : (Value.bool true).resultList f.resultTypes.size = [.bool true] := by rw [hres]; rfl
  have hR : ∀ (b : Nat) (sp : Nat → Bool) (hd : Bool), DataW.TrodAll enc P W' b sp hd f.resultTypes.toList ((Value.bool true).resultList f.resultTypes.size) [.lit (.bool true)] [] := fun b sp hd => by
    rw [hrl, hres]
    exact trodAll_cons_mk (shut_bool htb _) trodAll_mk0
  refine ⟨ds, [], p ++ [], [], p, [], by simpa using hW2, ?_, ?_, ?_, hb.frame _, fun _ => ⟨?_, [.lit (.bool true)] ++ ds, [], p, ⟨p, [], ?_, by rw [hv]; rfl, by simp, ?_, fun h => by simpa using hnd h⟩, fun x hx _ => by simpa using hx⟩⟩
  · rw [hs]; exact hR _ _ _
  · rw [hs]; exact hargs _ (fun x hx => by simpa using hlt x (List.mem_append_left _ hx))
  · rw [hv, hs]; rfl
  · intro j t r hj hr
    rw [hrl] at hr
    rw [hres] at hj
    match j, hj, hr with
    | 0, hj, hr =>
      simp at hj hr
      subst hj hr
      exact okWide_bool_mk htb _
  · exact trodAll_append (hargs _ (fun _ _ => rfl)) (hR _ _ _)
  · intro b off hp
    rw [hb.frozen (p := ⟨b, off, none⟩) (hlt (.cell b off) (List.mem_append_left _ hp))]
    exact hz b off (List.mem_append_left _ hp)
end Go.Bk
