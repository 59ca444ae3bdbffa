/- Numbers in falling order: what the reference and the program compute is one list. No condition but a bound on the list's length. -/
import Derived.Test.YtoeenpcilfhjbaaPFnFallingNPl
import Derived.Test.YtoeenpcilfhjbaaPFnFallingNFn1
import Derived.Test.YtoeenpcilfhjbaaPFnFallingSrM
namespace Go.Cx
open Go.RowKit Go.Proofs
set_option linter.unusedVariables false
set_option linter.unusedSimpArgs false
def Fall (l : List Int) : Prop := l.Pairwise fun x y => y ≤ x
theorem fallB_fall (l : List Int) : Fall (fallB l) := by
  have h := List.pairwise_mergeSort (le := fun x y : Int => !Go.Sr.ltR y x) (fun a b c h1 h2 => by simp [Go.Sr.ltR, Go.Sort.ltInt] at h1 h2 ⊢; omega) (fun a b => by simp [Go.Sr.ltR, Go.Sort.ltInt]; omega) l
  refine List.Pairwise.imp ?_ h
  intro a b h
  simpa [Go.Sr.ltR, Go.Sort.ltInt] using h
theorem fall_room {n : Nat} (h : n ≤ 1048577) : room n 8 = true := by
  unfold room maxLen
  simp
  omega
theorem iFalling (l : List Int) (h : l.length ≤ 1048576) : d_impl_Falling l = some (fallB l) := by
  unfold d_impl_Falling d_impl_copyInts
  rw [fall_room (by simp; omega), cond_true]
  simp
end Go.Cx
