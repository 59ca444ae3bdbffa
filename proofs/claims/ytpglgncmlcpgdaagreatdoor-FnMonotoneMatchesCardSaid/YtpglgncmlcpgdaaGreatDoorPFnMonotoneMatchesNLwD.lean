/- Comparing rules and networks, stamps and times, in plain words. No condition but bounds on sizes. -/
import Derived.Test.YtpglgncmlcpgdaaGreatDoorPFnMonotoneMatchesNLwC
namespace Go.Cx
open Go.RowKit Go.Proofs
set_option linter.unusedVariables false
set_option linter.unusedSimpArgs false
theorem pair_dec (x y : Pair) : ((x.var : Bytes) == y.var && (x.value : Bytes) == y.value) = decide (x = y) := by
  obtain ⟨x0, x1⟩ := x; obtain ⟨y0, y1⟩ := y
  simp only [beq_dec]
  by_cases h0 : x0 = y0 <;> by_cases h1 : x1 = y1 <;> simp [h0, h1]
theorem sSameB (a b : List Pair) : d_spec_l6SameBinding a b = some (decide (a = b)) := by
  unfold d_spec_l6SameBinding
  exact eqL (c := Pair.c) (f := fun x y => some (decide (x = y))) (fun k => d_spec_l6SameBinding_L1 a b k) (fun _ _ => rfl) (fun k x xs i => by rw [d_spec_l6SameBinding_L1]; congr 1; funext y; rw [pair_dec]; rfl) (fun _ _ => rfl)
end Go.Cx
