/- Memory, part 6: make. -/
import Derived.Test.YtbbjljhbiaeadaaMem5
import Derived.Laws.MakeOwn
set_option linter.unusedSimpArgs false
set_option linter.unusedVariables false
namespace Go.Bk
open Go.RowKit
variable {P : Program}

/-- make([]T, n). -/
theorem make_own {w0 w : World} {M : Nat → Prop} {h : HP} {t e sz bytes : Nat} {z : Value} (T : SlTy P t e sz bytes z) (hs : St w0 M h w) (kl kc : IntKind) (n : Nat) (hb : n * bytes ≤ 140737488355328) (h63 : n ≤ maxLen) {K : Value → World → Prop}
    (k : ∀ v hp w', OwnS e sz v n (madeCells z.cells (n * sz)).toList hp → St w0 M (hp ++ h) w' → K v w') : pE (semE P (Instr.makeSlice t (.int kl n) (.int kc n)) w) K := by
  obtain ⟨i, hi, hsz, hby, hz⟩ := T.i
  subst hsz hby
  have hr := run_make (P := P) w t e i z T.t hi hz kl kc (n : Int) (n : Int) (by omega) (by omega) (by rw [Nat.mul_comm] at hb; have h2 : ((i.bytes * n : Nat) : Int) = (i.bytes : Int) * (n : Int) := Int.natCast_mul _ _; rw [← h2]; omega) (by simp only [maxLen] at h63; omega)
  unfold pE semE
  rw [hr]
  simp only [Int.toNat_natCast]
  have hsize : (madeCells z.cells (n * i.size)).toList.length = n * i.size := by
    rw [Array.length_toList, size_madeCells]
  refine k _ [(w.heap.size, ⟨(madeCells z.cells (n * i.size)).toList, e⟩)] _ ⟨hsize, .inr ⟨w.heap.size, n, [], rfl, Nat.le_refl _, h63, by rw [List.append_nil]; exact Nat.le_of_eq hsize.symm, by simp⟩⟩ ?_
  have := hs.alloc (madeCells z.cells (n * i.size)).toList e
  simpa using this
theorem pCallV_func {f : FuncId} {first cap : Array Value} {args : List Value} {w : World} {K : Value → World → Prop} (h : pCall P f (first.toList ++ args ++ cap.toList) w K) : pCallV P (.func (.func f) first cap) args w K := by
  unfold pCallV pCall at *
  have e : (do let d ← Deferred.ofValue (.func (.func f) first cap) args.toArray; invoke d.target d.args) = callFunc f (first.toList ++ args ++ cap.toList).toArray := by
    have e2 : first ++ (args.toArray ++ cap) = (first.toList ++ (args ++ cap.toList)).toArray := by apply Array.ext'; simp
    simp [Deferred.ofValue, invoke, e2]
  rw [e]; exact h
end Go.Bk
