/- Shapes in plain words: a shape is its own shape; a pattern and its shape cover each other. No condition but bounds on sizes. -/
import Derived.Test.YtpglgncmlcpgdaaGreatDoorPFnMonotoneMatchesNLwE
namespace Go.Cx
open Go.RowKit Go.Proofs
set_option linter.unusedVariables false
set_option linter.unusedSimpArgs false
/-- the k-th plain name -/
def nmB (k : Nat) : Bytes := [63] ++ Lib.itoa ((k : Int) + 1)
/-- pairs that give variables plain names, in order -/
def WfN (N : List Pair) : Prop := ∀ (i : Nat) p, N[i]? = some p → p.value = nmB i ∧ varB p.var = true
/-- keys are told apart -/
def NdK (N : List Pair) : Prop := (N.map Pair.var).Nodup
theorem WfN.nil : WfN [] := fun i p h => by simp at h
theorem NdK.nil : NdK [] := by simp [NdK]
/-! covers -/
end Go.Cx
